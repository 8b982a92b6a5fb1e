/- Contracts and plain laws, several texts in one: TgS; Angle; TgB; TgM; AsP; RtP -/
import Derived.Test.YtnnmfdeeicpdlaaGreatProg
import Derived.WalkKit
import Derived.WalkSpells
import Derived.WalkLawsBesides
import Derived.Lib.Hide
import Derived.BigQuiet
import Derived.Test.YtnnmfdeeicpdlaaGreatSAA
import Derived.Test.YtnnmfdeeicpdlaaGreatSAB
import Derived.Test.YtnnmfdeeicpdlaaGreatSAD
import Derived.Test.YtnnmfdeeicpdlaaGreatSAE
/- The sine of an angle of the first quadrant. -/
namespace Go.Proofs.YtnnmfdeeicpdlaaGreat
open Go.RowKit

def octS (r : Nat) : Nat := (rotN r).1 / 73786976294838206464
def octC (r : Nat) : Nat := (rotN r).2 / 73786976294838206464
theorem octS_bt {r : Nat} (h1 : 1 ≤ r) (h2 : r ≤ 2700000) (h3 : r ≠ 1800000) : Bt (octS r) (sinT r) := bt_of h2 ((rot_all h1 h2).1 h3) (rot_near h2).1
theorem octC_bt {r : Nat} (h1 : 1 ≤ r) (h2 : r ≤ 2700000) : Bt (octC r) (cosT r) := bt_of h2 (rot_all h1 h2).2 (rot_near h2).2
theorem bt_lt {f : Nat} {v : Rat} (h : Bt f v) (hv : v ≤ 1) : f < 1073741824 := by
  obtain ⟨b1, b2⟩ := h
  have : (f : Rat) < 1073741824 := by grind
  exact_mod_cast this
theorem octS_lt {r : Nat} (h1 : 1 ≤ r) (h2 : r ≤ 2700000) (h3 : r ≠ 1800000) : octS r < 1073741824 := by
  have h4 : r ≤ 2700001 := Nat.le_succ_of_le h2
  exact bt_lt (octS_bt h1 h2 h3) (Rat.le_trans (sin_in h4).2 (Rat.le_trans (xi_in h4).2 (by grind)))
theorem octC_lt {r : Nat} (h1 : 1 ≤ r) (h2 : r ≤ 2700000) : octC r < 1073741824 :=
  bt_lt (octC_bt h1 h2) (cos_in (Nat.le_succ_of_le h2)).2
attribute [irreducible] octS octC
def sinQ (n : Nat) : Nat := if n = 0 then 0 else if n = 1800000 then 536870912 else if n = 5400000 then 1073741824 else if 2 * n ≤ 5400000 then octS n else octC (5400000 - n)
def exaQ (n : Nat) : Bool := n == 0 || n == 1800000 || n == 5400000
theorem top34 {r : List Nat} (h : Wd 4 r) : val4 r / 107839786668602559178668060348078522694548577690162289924414440996864 = nt r 0 / 17179869184 := by
  have e := valB_drop (B := 18446744073709551616) (l := r) (i := 0) (by rw [h.len]; decide)
  rw [List.drop_zero, h.len] at e
  have hlt := valB_lt (B := 18446744073709551616) (by decide) (l := r.drop 1) (fun x hx => h.mem x (List.mem_of_mem_drop hx))
  rw [List.length_drop, h.len] at hlt
  unfold val4
  rw [e]
  rw [show (107839786668602559178668060348078522694548577690162289924414440996864 : Nat) = 18446744073709551616 ^ (4 - 0 - 1) * 17179869184 by decide +kernel, ← Nat.div_div_eq_div_mul]
  rw [show 4 - 1 = 4 - 0 - 1 by rfl] at hlt
  generalize 18446744073709551616 ^ (4 - 0 - 1) = P at *
  rw [Nat.add_comm, Nat.add_mul_div_right _ _ (by omega), Nat.div_eq_of_lt hlt, Nat.zero_add]
theorem sin_cell {r : Nat} {x u p s : List Nat} {y c : Nat} (h1 : 1 ≤ r) (h2 : r ≤ 2700000) (h3 : r ≠ 1800000) (hx : val4 x = r * piN / 10800000) (hu : Wd 4 u) (hs : Wd 4 s)
    (q1 : y * b256 ≤ val4 x * val4 x) (q2 : val4 x * val4 x ≤ (y + 2) * b256) (hc : ChainN b256 y 2 34 (val4 u))
    (p1 : val4 p * b256 ≤ val4 x * val4 u) (p2 : val4 x * val4 u ≤ (val4 p + 2) * b256) (c1 : c ≤ 1) (e : val4 s + val4 p = val4 x + c * b256) : nt s 0 / 17179869184 = octS r := by
  have hul : val4 u < b256 := by rw [← b256_pow]; exact val4_lt hu
  have hsl : val4 s < b256 := by rw [← b256_pow]; exact val4_lt hs
  have hp : val4 p ≤ val4 x := by
    have h4 : val4 p * b256 ≤ val4 x * b256 := Nat.le_trans p1 (Nat.mul_le_mul_left _ (Nat.le_of_lt hul))
    exact Nat.le_of_mul_le_mul_right h4 b256_pos
  have hc2 : c = 0 := by
    have : c = 0 ∨ c = 1 := by omega
    rcases this with rfl | rfl
    · rfl
    · omega
  subst hc2
  rw [← top34 hs]
  exact cell_of (ser_sin h2 hx q1 q2 hc p1 p2 (by omega)) (octS_bt h1 h2 h3)
theorem one_out {f : Nat} {v : Rat} (hf : f < 1073741824) (hb : Bt f v) (hn : Nr (1 - ((0 : Nat) : Rat) / (b256 : Rat)) v sml) : False := by
  have h6 : (f : Rat) + 1 ≤ 1073741824 := by exact_mod_cast hf
  have h7 := hn.1
  have h8 : ((0 : Nat) : Rat) / (b256 : Rat) = 0 := by simp [Rat.div_def]
  rw [h8] at h7
  have h9 := hb.2
  unfold sml at h7
  grind
theorem cos_cell {r : Nat} {x u z s : List Nat} {y c : Nat} (h1 : 1 ≤ r) (h2 : r ≤ 2700000) (hx : val4 x = r * piN / 10800000) (hu : Wd 4 u) (hs : Wd 4 s)
    (q1 : y * b256 ≤ val4 x * val4 x) (q2 : val4 x * val4 x ≤ (y + 2) * b256) (hc : ChainN b256 y 1 34 (val4 u)) (hz : val4 z = 0) (c1 : c ≤ 1) (e : val4 s + val4 u = val4 z + c * b256) : nt s 0 / 17179869184 = octC r := by
  have hul : val4 u < b256 := by rw [← b256_pow]; exact val4_lt hu
  have hn := ser_cos h2 hx q1 q2 hc
  have hb := octC_bt h1 h2
  rw [← top34 hs]
  rw [hz, Nat.zero_add] at e
  have hu0 : val4 u ≠ 0 := fun h0 => by
    rw [h0] at hn
    exact one_out (octC_lt h1 h2) hb hn
  have hc2 : c = 1 := by
    have : c = 0 ∨ c = 1 := by omega
    rcases this with rfl | rfl
    · omega
    · rfl
  subst hc2
  have e2 : (val4 s : Rat) / (b256 : Rat) = 1 - (val4 u : Rat) / (b256 : Rat) := by
    have h5 : (val4 s : Rat) + (val4 u : Rat) = (b256 : Rat) := by exact_mod_cast (show val4 s + val4 u = b256 by omega)
    have hb := b256_rat
    rw [show (val4 s : Rat) = (b256 : Rat) - (val4 u : Rat) by grind]
    grind
  exact cell_of (by rw [e2]; exact hn) hb

theorem sin_wrap {a c : Nat} (h : a / 17179869184 = c) (hc : c < 1073741824) : wrap64 ((a : Int) / 17179869184) = (c : Int) := by
  have e : (a : Int) / 17179869184 = (c : Int) := by omega
  rw [e]
  unfold wrap64
  omega
theorem zero4 : Wd 4 [0, 0, 0, 0] ∧ val4 [0, 0, 0, 0] = 0 := ⟨⟨rfl, fun i => by
  unfold nt
  match i with
  | 0 => decide
  | 1 => decide
  | 2 => decide
  | 3 => decide
  | i + 4 => simp⟩, by decide +kernel⟩
set_option maxHeartbeats 4000000 in
set_option maxRecDepth 100000 in
theorem tg_sine (n : Nat) (hn : n ≤ 5400000) (w : World) :
    Calls Tryz.prog 235 #[.int .i64 (n : Int)] w fun e w' => e = .returned (.tuple #[.int .i64 (sinQ n : Int), .bool (exaQ n)]) ∧ ∃ d, w' = bw w d := by
  refine lay_start ?_
  by_cases c0 : n = 0
  · subst c0
    go_enter Tryz.func235, Tryz.ntmps235
    go_wp2_with fail
    exact bodyPost_ret (v := .tuple #[.int .i64 0, .bool true]) (by simp [results, Tryz.results235, go_sem]) rfl ⟨rfl, lay_ex _ _⟩
  by_cases c1 : n = 1800000
  · subst c1
    go_enter Tryz.func235, Tryz.ntmps235
    go_wp2_with fail
    exact bodyPost_ret (v := .tuple #[.int .i64 536870912, .bool true]) (by simp [results, Tryz.results235, go_sem]) rfl ⟨rfl, lay_ex _ _⟩
  by_cases c2 : n = 5400000
  · subst c2
    go_enter Tryz.func235, Tryz.ntmps235
    go_wp2_with fail
    exact bodyPost_ret (v := .tuple #[.int .i64 1073741824, .bool true]) (by simp [results, Tryz.results235, go_sem]) rfl ⟨rfl, lay_ex _ _⟩
  have b0 : ((n : Int) == 0) = false := beq_eq_false_iff_ne.2 (by omega)
  have b1 : ((n : Int) == 1800000) = false := beq_eq_false_iff_ne.2 (by omega)
  have b2 : ((n : Int) == 5400000) = false := beq_eq_false_iff_ne.2 (by omega)
  have b3 : exaQ n = false := by unfold exaQ; simp [c0, c1, c2]
  rw [b3]
  obtain ⟨N2, hN2⟩ : ∃ N2 : Int, 2 * (n : Int) = N2 := ⟨_, rfl⟩
  have kN2 : IntKind.i64.wrap N2 = N2 := IntWalk.i64_in _ (by omega)
  by_cases c3 : 2 * n ≤ 5400000
  · have b4 : N2 ≤ 5400000 := by omega
    rw [show sinQ n = octS n by unfold sinQ; rw [if_neg c0, if_neg c1, if_neg c2, if_pos c3]]
    have HR := Lib.hid (fun W => tr_radians n (by omega) W)
    unfold nuV at HR
    go_enter Tryz.func235, Tryz.ntmps235
    go_wp2_with (go_at_call 279; refine (HR.out _).mono ?_; rintro e w' ⟨x, dx, rfl, rfl, hx, hx2⟩)
    have HX := Lib.hid (And.intro hx hx2)
    clear hx hx2 HR
    have HL := Lib.hid (fun W => tr_less x 1 HX.out.1 (by decide) W)
    unfold nuV at HL
    rw [show ((1 : Nat) : Int) = 1 from rfl] at HL
    go_wp2_with fail
    refine region_mixS 6 [(0, 0), (1, 0), (2, 0), (3, 1), (4, 1), (5, 1), (6, 3)] (by kernel_rfl) (by kernel_rfl) (by kernel_rfl) rfl ?_
    repeat (first | (refine wpMS_pure rfl (fun K hK => ?_); go_simp; refine hK _ ?_; clear hK K) | (refine wpMS_quiet rfl (fun K hK => ?_); go_simp; first | (refine hK _ ?_; clear hK K) | (apply Exists.intro; refine ⟨fun _ => ?_, hK _ ?_⟩; (first | fail); clear hK K)))
    refine wpMS_special rfl (fun K hK e1 => ?_)
    rw [lay_bw]
    go_simp
    refine (HL.out _).mono ?_
    rintro e w' ⟨u, du, rfl, rfl, hu, y, hy1, hy2, hcn⟩
    have HU := Lib.hid (And.intro hu (And.intro hy1 (And.intro hy2 hcn)))
    clear hu hy1 hy2 hcn HL
    refine ⟨_, rfl, hK _ _ (lay_in w [.inr du, .inr e1] _) ?_⟩
    clear hK K
    have HM := Lib.hid (fun W => nm_mul x u HX.out.1 HU.out.1 W)
    unfold nuV at HM
    refine wpMS_special rfl (fun K hK e2 => ?_)
    rw [lay_bw, lay_bw]
    go_simp
    refine (HM.out _).mono ?_
    rintro e w' ⟨p, dp, rfl, rfl, hp, hp1, hp2⟩
    rw [b256_pow] at hp1 hp2
    have HP := Lib.hid (And.intro hp (And.intro hp1 hp2))
    clear hp hp1 hp2 HM
    refine ⟨_, rfl, hK _ _ (lay_in w [.inr dp, .inr e2, .inr du, .inr e1] _) ?_⟩
    clear hK K
    have HS := Lib.hid (fun W => nm_sub x p HX.out.1 HP.out.1 W)
    unfold nuV at HS
    refine wpMS_special rfl (fun K hK e3 => ?_)
    rw [lay_bw, lay_bw]
    go_simp
    refine (HS.out _).mono ?_
    rintro e w' ⟨r, dr, rfl, rfl, hr, c, hc1, hr2⟩
    rw [b256_pow] at hr2
    have HE := Lib.hid (sin_cell (by omega) (by omega) c1 HX.out.2 HU.out.1 hr HU.out.2.1 HU.out.2.2.1 HU.out.2.2.2 HP.out.2.1 HP.out.2.2 hc1 hr2)
    have HB := Lib.hid (octS_lt (r := n) (by omega) (by omega) c1)
    clear hr hr2 HS hc1
    refine ⟨_, rfl, hK _ _ (lay_in w [.inr dr, .inr e3, .inr dp, .inr e2, .inr du, .inr e1] _) ?_⟩
    clear hK K
    refine wpMS_store rfl (fun K hK e4 => ?_)
    rw [lay_bw, lay_bw]
    go_simp
    refine hK _ _ ?_
    clear hK K
    refine wpMS_nil (fun e5 => ?_)
    rw [lay_bw]
    go_wp2_with fail
    rw [sin_wrap HE.out HB.out]
    exact bodyPost_ret (v := .tuple #[.int .i64 (octS n : Int), .bool false]) (by simp [results, Tryz.results235, go_sem]) rfl ⟨rfl, lay_ex _ _⟩
  · have b4 : ¬ N2 ≤ 5400000 := by omega
    rw [show sinQ n = octC (5400000 - n) by unfold sinQ; rw [if_neg c0, if_neg c1, if_neg c2, if_neg c3]]
    obtain ⟨m, hm⟩ : ∃ m, 5400000 - n = m := ⟨_, rfl⟩
    rw [hm]
    have hm2 : (5400000 : Int) - (n : Int) = (m : Int) := by omega
    have km : IntKind.i64.wrap (m : Int) = (m : Int) := IntWalk.i64_in _ (by omega)
    have HR := Lib.hid (fun W => tr_radians m (by omega) W)
    unfold nuV at HR
    go_enter Tryz.func235, Tryz.ntmps235
    go_wp2_with (go_at_call 279; refine (HR.out _).mono ?_; rintro e w' ⟨x, dx, rfl, rfl, hx, hx2⟩)
    have HX := Lib.hid (And.intro hx hx2)
    clear hx hx2 HR
    have HL := Lib.hid (fun W => tr_less x 0 HX.out.1 (by decide) W)
    unfold nuV at HL
    rw [show ((0 : Nat) : Int) = 0 from rfl] at HL
    go_wp2_with fail
    refine (HL.out _).mono ?_
    rintro e w' ⟨u, du, rfl, rfl, hu, y, hy1, hy2, hcn⟩
    have HU := Lib.hid (And.intro hu (And.intro hy1 (And.intro hy2 hcn)))
    clear hu hy1 hy2 hcn HL
    have HS := Lib.hid (fun W => nm_sub [0, 0, 0, 0] u zero4.1 HU.out.1 W)
    unfold nuV at HS
    change Hid (∀ W, Calls Tryz.prog 280 #[.agg #[.int .u64 0, .int .u64 0, .int .u64 0, .int .u64 0], _] W _) at HS
    go_wp2_with fail
    refine (HS.out _).mono ?_
    rintro e w' ⟨r, dr, rfl, rfl, hr, c, hc1, hr2⟩
    rw [b256_pow] at hr2
    have HE := Lib.hid (cos_cell (by omega) (by omega) HX.out.2 HU.out.1 hr HU.out.2.1 HU.out.2.2.1 HU.out.2.2.2 zero4.2 hc1 hr2)
    have HB := Lib.hid (octC_lt (r := m) (by omega) (by omega))
    clear hr hr2 HS hc1
    go_wp2_with fail
    rw [sin_wrap HE.out HB.out]
    exact bodyPost_ret (v := .tuple #[.int .i64 (octC m : Int), .bool false]) (by simp [results, Tryz.results235, go_sem]) rfl ⟨rfl, lay_ex _ _⟩
attribute [irreducible] sinQ
end Go.Proofs.YtnnmfdeeicpdlaaGreat
/- Contracts of package angle and of its reference, as far as the translation has them. -/
namespace Go.Proofs.YtnnmfdeeicpdlaaGreat
set_option maxHeartbeats 400000
open Go.RowKit

def fitsB (n : Int) : Bool := decide (-1099511627776 ≤ n ∧ n ≤ 1099511627776)
theorem fits_yes {n : Int} (h1 : -1099511627776 ≤ n) : decide (n ≤ 1099511627776) = fitsB n := by
  unfold fitsB; simp [h1]
theorem fits_no {n : Int} (h1 : n < -1099511627776) : false = fitsB n := by
  unfold fitsB; simp; omega
def validB (lo hi : Int) : Bool := decide (lo ≤ hi ∧ -1099511627776 ≤ lo ∧ hi ≤ 1099511627776)
theorem validB_iff {lo hi : Int} : validB lo hi = true ↔ lo ≤ hi ∧ -1099511627776 ≤ lo ∧ hi ≤ 1099511627776 := by simp [validB]
theorem validB_eq {lo hi : Int} : validB lo hi = (decide (lo ≤ hi) && fitsB lo && fitsB hi) := by
  rw [Bool.eq_iff_iff]; simp [validB, fitsB]; omega
theorem angle_fits (n : Int) (w : World) :
    Calls Tryz.prog 115 #[.int .i64 n] w fun e w' => e = .returned (.bool (fitsB n)) ∧ w' = w := by
  go_enter Tryz.func115, Tryz.ntmps115
  go_wp2
  · go_ret
    exact ⟨ret_bool (fits_yes ‹_›), rfl⟩
  · go_ret
    exact ⟨ret_bool (fits_no ‹_›), rfl⟩
theorem valid_ways1 {lo hi : Int} (h : lo ≤ hi) (h2 : fitsB lo = true) : fitsB hi = validB lo hi := by simp [validB_eq, *]
theorem valid_ways2 {lo hi : Int} (h2 : ¬ fitsB lo = true) : false = validB lo hi := by simp [validB_eq, *]
theorem valid_ways3 {lo hi : Int} (h2 : hi < lo) : false = validB lo hi := by
  have : ¬ lo ≤ hi := by omega
  simp [validB_eq, *]
theorem angle_Valid (lo hi : Int) (w : World) :
    Calls Tryz.prog 39 #[(.agg #[.int .i64 (lo), .int .i64 (hi)])] w fun e w' => e = .returned (.bool (validB lo hi)) ∧ ∃ d, w' = bw w d := by
  refine lay_start ?_
  go_enter Tryz.func39, Tryz.ntmps39
  go_wp2_with (go_at_call 115; refine (angle_fits _ _).mono ?_; rintro e w' ⟨rfl, rfl⟩)
  all_goals go_ret
  all_goals exact ⟨ret_bool (by first | exact valid_ways1 ‹_› ‹_› | exact valid_ways2 ‹_› | exact valid_ways3 ‹_›), lay_ex _ _⟩
theorem ref05_Floor (a b : Int) (w : World) (hb : 1 ≤ b) (h1 : -9223372036854775807 ≤ a) (h2 : a ≤ 9223372036854775807) :
    Calls Tryz.prog 206 #[.int .i64 a, .int .i64 b] w fun e w' => e = .returned (.int .i64 (a / b)) ∧ w' = w := by
  go_enter Tryz.func206, Tryz.ntmps206
  go_wp2
  · go_ret
    refine ⟨ret_int ?_, rfl⟩
    rw [IntWalk.wrap64_in]
    · exact floor_neg hb ‹_›
    · rw [floor_neg hb ‹_›]; have := ediv_bd hb 9223372036854775807 (by decide) h1 h2; omega
  · go_ret
    exact ⟨ret_int (floor_pos hb ‹_›), rfl⟩
theorem ref05_Ceil (a b : Int) (w : World) (hb : 1 ≤ b) (h1 : -9223372036854775807 ≤ a) (h2 : a ≤ 9223372036854775807) :
    Calls Tryz.prog 311 #[.int .i64 a, .int .i64 b] w fun e w' => e = .returned (.int .i64 (cdiv a b)) ∧ w' = w := by
  go_enter Tryz.func311, Tryz.ntmps311
  go_wp2
  · go_ret
    refine ⟨ret_int ?_, rfl⟩
    rw [IntWalk.wrap64_in]
    · exact cdiv_pos hb ‹_›
    · rw [cdiv_pos hb ‹_›]; have := cdiv_bd hb 9223372036854775807 (by decide) h1 h2; omega
  · go_ret
    exact ⟨ret_int (cdiv_neg hb ‹_›), rfl⟩
theorem angle_Wrap (n : Int) (w : World) :
    Calls Tryz.prog 91 #[.int .i64 n] w fun e w' => e = .returned (.int .i64 (n % 21600000)) ∧ w' = w := by
  have hb := tmod_bd n 21600000 (by decide)
  go_enter Tryz.func91, Tryz.ntmps91
  go_wp2
  · go_ret
    exact ⟨ret_int ((tmod_wrap n 21600000 (by decide)).1 ‹_›), rfl⟩
  · go_ret
    exact ⟨ret_int ((tmod_wrap n 21600000 (by decide)).2 ‹_›), rfl⟩
theorem ref05_Wrap (n : Int) (w : World) :
    Calls Tryz.prog 177 #[.int .i64 n] w fun e w' => e = .returned (.int .i64 (n % 21600000)) ∧ w' = w := by
  have hb := tmod_bd n 21600000 (by decide)
  go_enter Tryz.func177, Tryz.ntmps177
  go_wp2
  · go_ret
    exact ⟨ret_int ((tmod_wrap n 21600000 (by decide)).1 ‹_›), rfl⟩
  · go_ret
    exact ⟨ret_int ((tmod_wrap n 21600000 (by decide)).2 ‹_›), rfl⟩

def mn (x y : Int) : Int := if y < x then y else x
def mx (x y : Int) : Int := if x < y then y else x
theorem mn_eq (x y : Int) : mn x y = min x y := by unfold mn; split <;> omega
theorem mx_eq (x y : Int) : mx x y = max x y := by unfold mx; split <;> omega
section
variable {P : Program} {w : World}
theorem run_mn (ts : Array TypeId) (t : TypeId) (k k' : IntKind) (x y : Int) : (Builtin.min_ ts t #[.int k x, .int k' y]).run P w = .ok (.int k (mn x y)) w := run_min_int2 w ts t k k' x y
theorem run_mx (ts : Array TypeId) (t : TypeId) (k k' : IntKind) (x y : Int) : (Builtin.max_ ts t #[.int k x, .int k' y]).run P w = .ok (.int k (mx x y)) w := run_max_int2 w ts t k k' x y
end
attribute [go_sem ↓] run_mn run_mx

theorem ref05_Hull (x0 y0 x1 y1 : Int) (w : World) :
    Calls Tryz.prog 149 #[(.agg #[.int .i64 (x0), .int .i64 (y0)]), (.agg #[.int .i64 (x1), .int .i64 (y1)])] w fun e w' => e = .returned (.agg #[.int .i64 (mn x0 x1), .int .i64 (mx y0 y1)]) ∧ ∃ d, w' = bw w d := by
  refine lay_start ?_
  go_enter Tryz.func149, Tryz.ntmps149
  go_wp2
  all_goals exact bodyPost_ret (v := (.agg #[.int .i64 (mn x0 x1), .int .i64 (mx y0 y1)])) (by simp [results, Tryz.results149, go_sem, mn, mx]; omega) rfl ⟨rfl, lay_ex _ _⟩
def meetLo (x0 y0 x1 y1 : Int) : Int := if max x0 x1 ≤ min y0 y1 then max x0 x1 else 0
def meetHi (x0 y0 x1 y1 : Int) : Int := if max x0 x1 ≤ min y0 y1 then min y0 y1 else 0
def meetE (x0 y0 x1 y1 : Int) : Int := if max x0 x1 ≤ min y0 y1 then 0 else 23
theorem meet_bad {x0 y0 x1 y1 : Int} (h : mn y0 y1 < mx x0 x1) : meetLo x0 y0 x1 y1 = 0 ∧ meetHi x0 y0 x1 y1 = 0 ∧ meetE x0 y0 x1 y1 = 23 := by
  rw [mn_eq, mx_eq] at h
  unfold meetLo meetHi meetE; omega
theorem meet_good {x0 y0 x1 y1 : Int} (h : mx x0 x1 ≤ mn y0 y1) : meetLo x0 y0 x1 y1 = mx x0 x1 ∧ meetHi x0 y0 x1 y1 = mn y0 y1 ∧ meetE x0 y0 x1 y1 = 0 := by
  rw [mn_eq, mx_eq] at *
  unfold meetLo meetHi meetE; omega
theorem angle_Meet (x0 y0 x1 y1 : Int) (w : World) (h1 : validB x0 y0 = true) (h2 : validB x1 y1 = true) :
    Calls Tryz.prog 331 #[(.agg #[.int .i64 (x0), .int .i64 (y0)]), (.agg #[.int .i64 (x1), .int .i64 (y1)])] w fun e w' => e = .returned (.tuple #[(.agg #[.int .i64 (meetLo x0 y0 x1 y1), .int .i64 (meetHi x0 y0 x1 y1)]), .int .i64 (meetE x0 y0 x1 y1)]) ∧ ∃ d, w' = bw w d := by
  by_cases h3 : mn y0 y1 < mx x0 x1
  · have HG := Lib.hid (meet_bad h3)
    refine lay_start ?_
    go_enter Tryz.func331, Tryz.ntmps331
    go_wp2_with (go_at_call 39; refine (angle_Valid _ _ _).mono ?_; rintro e w' ⟨rfl, d, rfl⟩)
    obtain ⟨g1, g2, g3⟩ := HG.out
    exact bodyPost_ret (v := .tuple #[(.agg #[.int .i64 (meetLo x0 y0 x1 y1), .int .i64 (meetHi x0 y0 x1 y1)]), .int .i64 (meetE x0 y0 x1 y1)]) (by simp [results, Tryz.results331, go_sem, g1, g2, g3]) rfl ⟨rfl, lay_ex _ _⟩
  · have HG := Lib.hid (meet_good (x0 := x0) (y0 := y0) (x1 := x1) (y1 := y1) (by omega))
    refine lay_start ?_
    go_enter Tryz.func331, Tryz.ntmps331
    go_wp2_with (go_at_call 39; refine (angle_Valid _ _ _).mono ?_; rintro e w' ⟨rfl, d, rfl⟩)
    obtain ⟨g1, g2, g3⟩ := HG.out
    exact bodyPost_ret (v := .tuple #[(.agg #[.int .i64 (meetLo x0 y0 x1 y1), .int .i64 (meetHi x0 y0 x1 y1)]), .int .i64 (meetE x0 y0 x1 y1)]) (by simp [results, Tryz.results331, go_sem, g1, g2, g3]) rfl ⟨rfl, lay_ex _ _⟩
theorem ref05_Meet (x0 y0 x1 y1 : Int) (w : World) :
    Calls Tryz.prog 138 #[(.agg #[.int .i64 (x0), .int .i64 (y0)]), (.agg #[.int .i64 (x1), .int .i64 (y1)])] w fun e w' => e = .returned (.agg #[.int .i64 (mx x0 x1), .int .i64 (mn y0 y1)]) ∧ ∃ d, w' = bw w d := by
  refine lay_start ?_
  go_enter Tryz.func138, Tryz.ntmps138
  go_wp2
  all_goals exact bodyPost_ret (v := (.agg #[.int .i64 (mx x0 x1), .int .i64 (mn y0 y1)])) (by simp [results, Tryz.results138, go_sem, mn, mx]; omega) rfl ⟨rfl, lay_ex _ _⟩
def turnLo (x0 y0 : Int) : Int := if 21600000 ≤ y0 - x0 then 0 else x0 % 21600000
def turnHi (x0 y0 : Int) : Int := if 21600000 ≤ y0 - x0 then 21600000 else x0 % 21600000 + (y0 - x0)
theorem angle_Turn (x0 y0 : Int) (w : World) (h1 : validB x0 y0 = true) :
    Calls Tryz.prog 21 #[(.agg #[.int .i64 (x0), .int .i64 (y0)])] w fun e w' => e = .returned (.tuple #[(.agg #[.int .i64 (turnLo x0 y0), .int .i64 (turnHi x0 y0)]), .int .i64 0]) ∧ ∃ d, w' = bw w d := by
  obtain ⟨g1, g2, g3⟩ := validB_iff.1 h1
  refine lay_start ?_
  go_enter Tryz.func21, Tryz.ntmps21
  go_wp2_with (first | (go_at_call 39; refine (angle_Valid _ _ _).mono ?_; rintro e w' ⟨rfl, d, rfl⟩) | (go_at_call 91; refine (angle_Wrap _ _).mono ?_; rintro e w' ⟨rfl, rfl⟩))
  all_goals exact bodyPost_ret (v := .tuple #[(.agg #[.int .i64 (turnLo x0 y0), .int .i64 (turnHi x0 y0)]), .int .i64 0]) (by simp [results, Tryz.results21, go_sem, turnLo, turnHi]; omega) rfl ⟨rfl, lay_ex _ _⟩
theorem ref05_Turn (x0 y0 : Int) (w : World) (h1 : -4611686018427387904 ≤ x0) (h2 : x0 ≤ y0) (h3 : y0 ≤ 4611686018427387903) :
    Calls Tryz.prog 90 #[(.agg #[.int .i64 (x0), .int .i64 (y0)])] w fun e w' => e = .returned (.agg #[.int .i64 (turnLo x0 y0), .int .i64 (turnHi x0 y0)]) ∧ ∃ d, w' = bw w d := by
  refine lay_start ?_
  go_enter Tryz.func90, Tryz.ntmps90
  go_wp2_with (go_at_call 177; refine (ref05_Wrap _ _).mono ?_; rintro e w' ⟨rfl, rfl⟩)
  all_goals exact bodyPost_ret (v := (.agg #[.int .i64 (turnLo x0 y0), .int .i64 (turnHi x0 y0)])) (by simp [results, Tryz.results90, go_sem, turnLo, turnHi]; omega) rfl ⟨rfl, lay_ex _ _⟩

theorem ref05_Add (x0 y0 x1 y1 : Int) (w : World) (h1 : -9223372036854775807 ≤ x0 + x1) (h2 : x0 + x1 ≤ 9223372036854775807) (h3 : -9223372036854775807 ≤ y0 + y1) (h4 : y0 + y1 ≤ 9223372036854775807) :
    Calls Tryz.prog 142 #[(.agg #[.int .i64 (x0), .int .i64 (y0)]), (.agg #[.int .i64 (x1), .int .i64 (y1)])] w fun e w' => e = .returned (.agg #[.int .i64 (x0 + x1), .int .i64 (y0 + y1)]) ∧ ∃ d, w' = bw w d := by
  refine lay_start ?_
  go_enter Tryz.func142, Tryz.ntmps142
  go_wp2
  exact bodyPost_ret (v := (.agg #[.int .i64 (x0 + x1), .int .i64 (y0 + y1)])) (by simp [results, Tryz.results142, go_sem]) rfl ⟨rfl, lay_ex _ _⟩
end Go.Proofs.YtnnmfdeeicpdlaaGreat
/- Sines and cosines over arcs: what the program returns. -/
namespace Go.Proofs.YtnnmfdeeicpdlaaGreat
set_option maxHeartbeats 1000000
set_option maxRecDepth 100000
open Go.RowKit

theorem sinQ_le {n : Nat} (h : n ≤ 5400000) : sinQ n ≤ 1073741824 := by
  unfold sinQ
  split
  · omega
  · split
    · omega
    · split
      · omega
      · split
        · exact Nat.le_of_lt (octS_lt (by omega) (by omega) (by omega))
        · exact Nat.le_of_lt (octC_lt (by omega) (by omega))
def foldT (n : Int) : Nat := if 10800000 < n % 21600000 then (if 16200000 < n % 21600000 then (21600000 - n % 21600000).toNat else (n % 21600000 - 10800000).toNat) else (if 5400000 < n % 21600000 then (10800000 - n % 21600000).toNat else (n % 21600000).toNat)
def souB (n : Int) : Bool := decide (10800000 < n % 21600000)
def oneQ (n : Nat) : Int := if exaQ n then 0 else 1
def bLo (n : Int) : Int := if souB n then -((sinQ (foldT n) : Int) + oneQ (foldT n)) else (sinQ (foldT n) : Int)
def bHi (n : Int) : Int := if souB n then -(sinQ (foldT n) : Int) else (sinQ (foldT n) : Int) + oneQ (foldT n)
theorem foldT_le (n : Int) : foldT n ≤ 5400000 := by
  unfold foldT
  split <;> split <;> omega
theorem oneQ_in (n : Nat) : 0 ≤ oneQ n ∧ oneQ n ≤ 1 := by unfold oneQ; split <;> omega
theorem tmod_turn (n : Int) : n.tmod 21600000 = n % 21600000 ∨ (n.tmod 21600000 < 0 ∧ n.tmod 21600000 + 21600000 = n % 21600000) := by
  by_cases h : 0 ≤ n
  · left; exact Int.tmod_eq_emod_of_nonneg h
  · have h1 : n.tmod 21600000 = -((-n) % 21600000) := by
      have := Int.neg_tmod (a := -n) (b := 21600000)
      rw [Int.neg_neg] at this
      rw [this, Int.tmod_eq_emod_of_nonneg (by omega)]
    rw [h1]
    omega
theorem tg_turned (n : Int) (w : World) :
    Calls Tryz.prog 234 #[.int .i64 n] w fun e w' => e = .returned (.int .i64 (n % 21600000)) ∧ w' = w := by
  obtain ⟨r, hr⟩ : ∃ r, n.tmod 21600000 = r := ⟨_, rfl⟩
  obtain ⟨q, hq⟩ : ∃ q, n % 21600000 = q := ⟨_, rfl⟩
  have hc := tmod_turn n
  rw [hr, hq] at hc
  have hq2 : 0 ≤ q ∧ q < 21600000 := by omega
  rw [hq]
  have k1 : IntKind.i64.wrap r = r := IntWalk.i64_in _ (by omega)
  rcases hc with hc | ⟨hc, hc2⟩
  · subst hc
    have h0 : ¬ r < 0 := by omega
    go_enter Tryz.func234, Tryz.ntmps234
    go_wp2_with fail
    go_ret
    exact ⟨rfl, rfl⟩
  · have k2 : IntKind.i64.wrap q = q := IntWalk.i64_in _ (by omega)
    go_enter Tryz.func234, Tryz.ntmps234
    go_wp2_with fail
    go_ret
    exact ⟨rfl, rfl⟩
theorem tg_bounds (n : Int) (w : World) :
    Calls Tryz.prog 180 #[.int .i64 n] w fun e w' => e = .returned (.tuple #[.int .i64 (bLo n), .int .i64 (bHi n)]) ∧ ∃ d, w' = bw w d := by
  refine lay_start ?_
  have HT := Lib.hid (fun W => tg_turned n W)
  have hf := foldT_le n
  have hs := sinQ_le hf
  have HS := Lib.hid (fun W => tg_sine (foldT n) hf W)
  have h1 : bLo n = if souB n then -((sinQ (foldT n) : Int) + oneQ (foldT n)) else (sinQ (foldT n) : Int) := rfl
  have h2 : bHi n = if souB n then -(sinQ (foldT n) : Int) else (sinQ (foldT n) : Int) + oneQ (foldT n) := rfl
  have h3 : foldT n = if 10800000 < n % 21600000 then (if 16200000 < n % 21600000 then (21600000 - n % 21600000).toNat else (n % 21600000 - 10800000).toNat) else (if 5400000 < n % 21600000 then (10800000 - n % 21600000).toNat else (n % 21600000).toNat) := rfl
  have h4 : souB n = decide (10800000 < n % 21600000) := rfl
  have h5 : oneQ (foldT n) = if exaQ (foldT n) then 0 else 1 := rfl
  obtain ⟨q, hq⟩ : ∃ q, n % 21600000 = q := ⟨_, rfl⟩
  have hq2 : 0 ≤ q ∧ q < 21600000 := by omega
  rw [hq] at HT h3 h4
  clear hq
  generalize foldT n = f at *
  generalize sinQ f = s at *
  generalize exaQ f = x at *
  rw [h1, h2]
  clear h1 h2
  rw [h4]
  have ks : IntKind.i64.wrap (s : Int) = (s : Int) := IntWalk.i64_in _ (by omega)
  obtain ⟨s1, hs1⟩ : ∃ s1 : Int, (s : Int) + 1 = s1 := ⟨_, rfl⟩
  have ks1 : IntKind.i64.wrap s1 = s1 := IntWalk.i64_in _ (by omega)
  obtain ⟨m1, hm1⟩ : ∃ m1 : Int, -s1 = m1 := ⟨_, rfl⟩
  have km1 : IntKind.i64.wrap m1 = m1 := IntWalk.i64_in _ (by omega)
  obtain ⟨m0, hm0⟩ : ∃ m0 : Int, -(s : Int) = m0 := ⟨_, rfl⟩
  have km0 : IntKind.i64.wrap m0 = m0 := IntWalk.i64_in _ (by omega)
  by_cases c1 : 10800000 < q
  · have e1 : decide (10800000 < q) = true := decide_eq_true c1
    obtain ⟨p, hp⟩ : ∃ p : Int, q - 10800000 = p := ⟨_, rfl⟩
    have kp : IntKind.i64.wrap p = p := IntWalk.i64_in _ (by omega)
    rw [if_pos c1] at h3
    by_cases c2 : 5400000 < p
    · obtain ⟨g, hg⟩ : ∃ g : Int, 10800000 - p = g := ⟨_, rfl⟩
      have kg : IntKind.i64.wrap g = g := IntWalk.i64_in _ (by omega)
      have hfg : (f : Int) = g := by rw [h3, if_pos (by omega)]; omega
      rw [hfg] at HS
      clear h3 hf
      cases x
      · rw [e1, show oneQ f = 1 from h5]
        clear h5 h4
        first | simp only [if_true] | simp only [Bool.false_eq_true, if_false]
        first | rw [hs1] | skip
        first | rw [hm1] | skip
        first | rw [hm0] | skip
        go_enter Tryz.func180, Tryz.ntmps180
        go_wp2_with (first | (go_at_call 234; refine (HT.out _).mono ?_; rintro e w' ⟨rfl, hw⟩; rw [hw]) | (go_at_call 235; refine (HS.out _).mono ?_; rintro e w' ⟨rfl, d, rfl⟩))
        refine bodyPost_ret (v := .tuple #[.int .i64 m1, .int .i64 m0]) (by simp [results, Tryz.results180, go_sem]) rfl ⟨?_, lay_ex _ _⟩
        first | rfl | (simp; omega) | simp
      · rw [e1, show oneQ f = 0 from h5]
        clear h5 h4
        first | simp only [if_true] | simp only [Bool.false_eq_true, if_false]
        first | rw [hs1] | skip
        first | rw [hm1] | skip
        first | rw [hm0] | skip
        go_enter Tryz.func180, Tryz.ntmps180
        go_wp2_with (first | (go_at_call 234; refine (HT.out _).mono ?_; rintro e w' ⟨rfl, hw⟩; rw [hw]) | (go_at_call 235; refine (HS.out _).mono ?_; rintro e w' ⟨rfl, d, rfl⟩))
        refine bodyPost_ret (v := .tuple #[.int .i64 m0, .int .i64 m0]) (by simp [results, Tryz.results180, go_sem]) rfl ⟨?_, lay_ex _ _⟩
        first | rfl | (simp; omega) | simp
    · have hfg : (f : Int) = p := by rw [h3, if_neg (by omega)]; omega
      rw [hfg] at HS
      clear h3 hf
      cases x
      · rw [e1, show oneQ f = 1 from h5]
        clear h5 h4
        first | simp only [if_true] | simp only [Bool.false_eq_true, if_false]
        first | rw [hs1] | skip
        first | rw [hm1] | skip
        first | rw [hm0] | skip
        go_enter Tryz.func180, Tryz.ntmps180
        go_wp2_with (first | (go_at_call 234; refine (HT.out _).mono ?_; rintro e w' ⟨rfl, hw⟩; rw [hw]) | (go_at_call 235; refine (HS.out _).mono ?_; rintro e w' ⟨rfl, d, rfl⟩))
        refine bodyPost_ret (v := .tuple #[.int .i64 m1, .int .i64 m0]) (by simp [results, Tryz.results180, go_sem]) rfl ⟨?_, lay_ex _ _⟩
        first | rfl | (simp; omega) | simp
      · rw [e1, show oneQ f = 0 from h5]
        clear h5 h4
        first | simp only [if_true] | simp only [Bool.false_eq_true, if_false]
        first | rw [hs1] | skip
        first | rw [hm1] | skip
        first | rw [hm0] | skip
        go_enter Tryz.func180, Tryz.ntmps180
        go_wp2_with (first | (go_at_call 234; refine (HT.out _).mono ?_; rintro e w' ⟨rfl, hw⟩; rw [hw]) | (go_at_call 235; refine (HS.out _).mono ?_; rintro e w' ⟨rfl, d, rfl⟩))
        refine bodyPost_ret (v := .tuple #[.int .i64 m0, .int .i64 m0]) (by simp [results, Tryz.results180, go_sem]) rfl ⟨?_, lay_ex _ _⟩
        first | rfl | (simp; omega) | simp
  · have e1 : decide (10800000 < q) = false := decide_eq_false c1
    rw [if_neg c1] at h3
    by_cases c2 : 5400000 < q
    · obtain ⟨g, hg⟩ : ∃ g : Int, 10800000 - q = g := ⟨_, rfl⟩
      have kg : IntKind.i64.wrap g = g := IntWalk.i64_in _ (by omega)
      have hfg : (f : Int) = g := by rw [h3, if_pos (by omega)]; omega
      rw [hfg] at HS
      clear h3 hf
      cases x
      · rw [e1, show oneQ f = 1 from h5]
        clear h5 h4
        first | simp only [if_true] | simp only [Bool.false_eq_true, if_false]
        first | rw [hs1] | skip
        first | rw [hm1] | skip
        first | rw [hm0] | skip
        go_enter Tryz.func180, Tryz.ntmps180
        go_wp2_with (first | (go_at_call 234; refine (HT.out _).mono ?_; rintro e w' ⟨rfl, hw⟩; rw [hw]) | (go_at_call 235; refine (HS.out _).mono ?_; rintro e w' ⟨rfl, d, rfl⟩))
        refine bodyPost_ret (v := .tuple #[.int .i64 (s : Int), .int .i64 s1]) (by simp [results, Tryz.results180, go_sem]) rfl ⟨?_, lay_ex _ _⟩
        first | rfl | (simp; omega) | simp
      · rw [e1, show oneQ f = 0 from h5]
        clear h5 h4
        first | simp only [if_true] | simp only [Bool.false_eq_true, if_false]
        first | rw [hs1] | skip
        first | rw [hm1] | skip
        first | rw [hm0] | skip
        go_enter Tryz.func180, Tryz.ntmps180
        go_wp2_with (first | (go_at_call 234; refine (HT.out _).mono ?_; rintro e w' ⟨rfl, hw⟩; rw [hw]) | (go_at_call 235; refine (HS.out _).mono ?_; rintro e w' ⟨rfl, d, rfl⟩))
        refine bodyPost_ret (v := .tuple #[.int .i64 (s : Int), .int .i64 (s : Int)]) (by simp [results, Tryz.results180, go_sem]) rfl ⟨?_, lay_ex _ _⟩
        first | rfl | (simp; omega) | simp
    · have hfg : (f : Int) = q := by rw [h3, if_neg (by omega)]; omega
      rw [hfg] at HS
      clear h3 hf
      cases x
      · rw [e1, show oneQ f = 1 from h5]
        clear h5 h4
        first | simp only [if_true] | simp only [Bool.false_eq_true, if_false]
        first | rw [hs1] | skip
        first | rw [hm1] | skip
        first | rw [hm0] | skip
        go_enter Tryz.func180, Tryz.ntmps180
        go_wp2_with (first | (go_at_call 234; refine (HT.out _).mono ?_; rintro e w' ⟨rfl, hw⟩; rw [hw]) | (go_at_call 235; refine (HS.out _).mono ?_; rintro e w' ⟨rfl, d, rfl⟩))
        refine bodyPost_ret (v := .tuple #[.int .i64 (s : Int), .int .i64 s1]) (by simp [results, Tryz.results180, go_sem]) rfl ⟨?_, lay_ex _ _⟩
        first | rfl | (simp; omega) | simp
      · rw [e1, show oneQ f = 0 from h5]
        clear h5 h4
        first | simp only [if_true] | simp only [Bool.false_eq_true, if_false]
        first | rw [hs1] | skip
        first | rw [hm1] | skip
        first | rw [hm0] | skip
        go_enter Tryz.func180, Tryz.ntmps180
        go_wp2_with (first | (go_at_call 234; refine (HT.out _).mono ?_; rintro e w' ⟨rfl, hw⟩; rw [hw]) | (go_at_call 235; refine (HS.out _).mono ?_; rintro e w' ⟨rfl, d, rfl⟩))
        refine bodyPost_ret (v := .tuple #[.int .i64 (s : Int), .int .i64 (s : Int)]) (by simp [results, Tryz.results180, go_sem]) rfl ⟨?_, lay_ex _ _⟩
        first | rfl | (simp; omega) | simp
def metB (lo hi n : Int) : Bool := decide ((n - lo) % 21600000 ≤ hi - lo)
theorem tg_meets (lo hi n : Int) (h1 : -2199023255552 ≤ lo) (h2 : lo ≤ hi) (h3 : hi ≤ 2199023255552) (h4 : 0 ≤ n) (h5 : n ≤ 21600000) (w : World) :
    Calls Tryz.prog 181 #[(.agg #[.int .i64 (lo), .int .i64 (hi)]), .int .i64 n] w fun e w' => e = .returned (.bool (metB lo hi n)) ∧ ∃ d, w' = bw w d := by
  refine lay_start ?_
  obtain ⟨D, hD⟩ : ∃ D : Int, n - lo = D := ⟨_, rfl⟩
  obtain ⟨E, hE⟩ : ∃ E : Int, hi - lo = E := ⟨_, rfl⟩
  have HT := Lib.hid (fun W => tg_turned D W)
  obtain ⟨q, hq⟩ : ∃ q, D % 21600000 = q := ⟨_, rfl⟩
  rw [show metB lo hi n = decide (q ≤ E) by unfold metB; rw [hD, hE, hq]]
  rw [hq] at HT
  have kD : IntKind.i64.wrap D = D := IntWalk.i64_in _ (by omega)
  have kE : IntKind.i64.wrap E = E := IntWalk.i64_in _ (by omega)
  clear hq
  go_enter Tryz.func181, Tryz.ntmps181
  go_wp2_with fail
  refine region_bw (by kernel_rfl) (by kernel_rfl) ?_
  repeat (go_big_quiet_step ((first | (go_at_call 234; exact bqs (HT.out _) ⟨_, rfl⟩))))
  refine wpQuiet_nil ?_
  rintro w' ⟨d, rfl⟩
  rw [lay_bw]
  go_wp2_with fail
  go_ret
  exact ⟨rfl, lay_ex _ _⟩
theorem tg_further (lo hi : Int) (h1 : -2199023255552 ≤ lo) (h2 : lo ≤ hi) (h3 : hi ≤ 2199023255552) (w : World) :
    Calls Tryz.prog 100 #[(.agg #[.int .i64 (lo), .int .i64 (hi)])] w fun e w' => e = .returned (.agg #[.int .i64 (lo + 5400000), .int .i64 (hi + 5400000)]) ∧ ∃ d, w' = bw w d := by
  refine lay_start ?_
  have k1 : IntKind.i64.wrap (lo + 5400000) = lo + 5400000 := IntWalk.i64_in _ (by omega)
  have k2 : IntKind.i64.wrap (hi + 5400000) = hi + 5400000 := IntWalk.i64_in _ (by omega)
  go_enter Tryz.func100, Tryz.ntmps100
  go_wp2_with fail
  exact bodyPost_ret (v := (.agg #[.int .i64 (lo + 5400000), .int .i64 (hi + 5400000)])) (by simp [results, Tryz.results100, go_sem]) rfl ⟨rfl, lay_ex _ _⟩
theorem tg_valid (lo hi : Int) (w : World) :
    Calls Tryz.prog 98 #[(.agg #[.int .i64 (lo), .int .i64 (hi)])] w fun e w' => e = .returned (.bool (validB lo hi)) ∧ ∃ d, w' = bw w d := by
  refine lay_start ?_
  go_enter Tryz.func98, Tryz.ntmps98
  go_wp2
  all_goals go_ret
  all_goals exact ⟨ret_bool (by rw [Bool.eq_iff_iff]; simp [validB]; omega), lay_ex _ _⟩
def encL (lo hi : Int) : Int := if metB lo hi 16200000 then -1073741824 else mn (bLo lo) (bLo hi)
def encH (lo hi : Int) : Int := if metB lo hi 5400000 then 1073741824 else mx (bHi lo) (bHi hi)
theorem tg_enclosure (lo hi : Int) (h1 : -2199023255552 ≤ lo) (h2 : lo ≤ hi) (h3 : hi ≤ 2199023255552) (w : World) :
    Calls Tryz.prog 99 #[(.agg #[.int .i64 (lo), .int .i64 (hi)])] w fun e w' => e = .returned (.agg #[.int .i64 (encL lo hi), .int .i64 (encH lo hi)]) ∧ ∃ d, w' = bw w d := by
  refine lay_start ?_
  have HB1 := Lib.hid (fun W => tg_bounds lo W)
  have HB2 := Lib.hid (fun W => tg_bounds hi W)
  have HM1 := Lib.hid (fun W => tg_meets lo hi 5400000 h1 h2 h3 (by decide) (by decide) W)
  have HM2 := Lib.hid (fun W => tg_meets lo hi 16200000 h1 h2 h3 (by decide) (by decide) W)
  have e1 : encL lo hi = if metB lo hi 16200000 then -1073741824 else mn (bLo lo) (bLo hi) := rfl
  have e2 : encH lo hi = if metB lo hi 5400000 then 1073741824 else mx (bHi lo) (bHi hi) := rfl
  rw [e1, e2]
  clear e1 e2
  generalize bLo lo = p at *
  generalize bLo hi = q at *
  generalize bHi lo = r at *
  generalize bHi hi = s at *
  cases hm1 : metB lo hi 5400000 <;> cases hm2 : metB lo hi 16200000
  all_goals
    rw [hm1] at HM1
    rw [hm2] at HM2
    clear hm1 hm2
    go_enter Tryz.func99, Tryz.ntmps99
    go_wp2_with (first | (go_at_call 180; first | (with_reducible refine (HB1.out _).mono ?_; rintro e w' ⟨rfl, d, rfl⟩) | (with_reducible refine (HB2.out _).mono ?_; rintro e w' ⟨rfl, d', rfl⟩)) | (go_at_call 181; first | (with_reducible refine (HM1.out _).mono ?_; rintro e w' ⟨rfl, d, rfl⟩) | (with_reducible refine (HM2.out _).mono ?_; rintro e w' ⟨rfl, d', rfl⟩)))
  · exact bodyPost_ret (v := (.agg #[.int .i64 (mn p q), .int .i64 (mx r s)])) (by simp [results, Tryz.results99, go_sem]) rfl ⟨rfl, lay_ex _ _⟩
  · exact bodyPost_ret (v := (.agg #[.int .i64 (-1073741824), .int .i64 (mx r s)])) (by simp [results, Tryz.results99, go_sem]) rfl ⟨rfl, lay_ex _ _⟩
  · exact bodyPost_ret (v := (.agg #[.int .i64 (mn p q), .int .i64 (1073741824)])) (by simp [results, Tryz.results99, go_sem]) rfl ⟨rfl, lay_ex _ _⟩
  · exact bodyPost_ret (v := (.agg #[.int .i64 (-1073741824), .int .i64 (1073741824)])) (by simp [results, Tryz.results99, go_sem]) rfl ⟨rfl, lay_ex _ _⟩
attribute [irreducible] encL encH bLo bHi
theorem tg_Sin (lo hi : Int) (hv : validB lo hi = true) (w : World) :
    Calls Tryz.prog 26 #[(.agg #[.int .i64 (lo), .int .i64 (hi)])] w fun e w' => e = .returned (.tuple #[(.agg #[.int .i64 (encL lo hi), .int .i64 (encH lo hi)]), .int .i64 0]) ∧ ∃ d, w' = bw w d := by
  refine lay_start ?_
  have h := validB_iff.1 hv
  have HV := Lib.hid (fun W => tg_valid lo hi W)
  rw [hv] at HV
  have HE := Lib.hid (fun W => tg_enclosure lo hi (by omega) h.1 (by omega) W)
  clear h hv
  generalize encL lo hi = p at *
  generalize encH lo hi = q at *
  go_enter Tryz.func26, Tryz.ntmps26
  go_wp2_with (first | (go_at_call 98; refine (HV.out _).mono ?_; rintro e w' ⟨rfl, d, rfl⟩) | (go_at_call 99; refine (HE.out _).mono ?_; rintro e w' ⟨rfl, d, rfl⟩))
  exact bodyPost_ret (v := .tuple #[(.agg #[.int .i64 (p), .int .i64 (q)]), .int .i64 0]) (by simp [results, Tryz.results26, go_sem]) rfl ⟨rfl, lay_ex _ _⟩
theorem tg_Cos (lo hi : Int) (hv : validB lo hi = true) (w : World) :
    Calls Tryz.prog 27 #[(.agg #[.int .i64 (lo), .int .i64 (hi)])] w fun e w' => e = .returned (.tuple #[(.agg #[.int .i64 (encL (lo + 5400000) (hi + 5400000)), .int .i64 (encH (lo + 5400000) (hi + 5400000))]), .int .i64 0]) ∧ ∃ d, w' = bw w d := by
  refine lay_start ?_
  have h := validB_iff.1 hv
  have HV := Lib.hid (fun W => tg_valid lo hi W)
  rw [hv] at HV
  have HF := Lib.hid (fun W => tg_further lo hi (by omega) h.1 (by omega) W)
  have HE := Lib.hid (fun W => tg_enclosure (lo + 5400000) (hi + 5400000) (by omega) (by omega) (by omega) W)
  clear h hv
  generalize encL (lo + 5400000) (hi + 5400000) = p at *
  generalize encH (lo + 5400000) (hi + 5400000) = q at *
  go_enter Tryz.func27, Tryz.ntmps27
  go_wp2_with (first | (go_at_call 98; refine (HV.out _).mono ?_; rintro e w' ⟨rfl, d, rfl⟩) | (go_at_call 100; refine (HF.out _).mono ?_; rintro e w' ⟨rfl, d, rfl⟩) | (go_at_call 99; refine (HE.out _).mono ?_; rintro e w' ⟨rfl, d, rfl⟩))
  exact bodyPost_ret (v := .tuple #[(.agg #[.int .i64 (p), .int .i64 (q)]), .int .i64 0]) (by simp [results, Tryz.results27, go_sem]) rfl ⟨rfl, lay_ex _ _⟩
end Go.Proofs.YtnnmfdeeicpdlaaGreat
/- Sines grow over the first quadrant; enclosures over parts of arcs. Plain laws, no walk. -/
namespace Go.Proofs.YtnnmfdeeicpdlaaGreat

theorem nr_up {a b e : Rat} (h : Nr a b e) (h1 : b ≤ 4 / 5) (h2 : e ≤ 1 / 100) : a ≤ 1 := by obtain ⟨h3, h4⟩ := h; grind
theorem nr_dn {a b e : Rat} (h : Nr a b e) (h1 : 17 / 25 ≤ b) (h2 : e ≤ 1 / 100) : 1 / 2 ≤ a := by obtain ⟨h3, h4⟩ := h; grind
theorem nat_up {s K : Nat} (hK : 0 < K) (h : (s : Rat) / (K : Rat) ≤ 1) : s ≤ K := by
  have k0 : (0 : Rat) < (K : Rat) := by exact_mod_cast hK
  have b1 := Rat.mul_le_mul_of_nonneg_right h (Rat.le_of_lt k0)
  rw [Rat.div_mul_cancel (Rat.ne_of_gt k0), Rat.one_mul] at b1
  exact_mod_cast b1
theorem nat_dn {s K : Nat} (hK : 0 < K) (h : 1 / 2 ≤ (s : Rat) / (K : Rat)) : K ≤ 2 * s := by
  have k0 : (0 : Rat) < (K : Rat) := by exact_mod_cast hK
  have b1 := Rat.mul_le_mul_of_nonneg_right h (Rat.le_of_lt k0)
  rw [Rat.div_mul_cancel (Rat.ne_of_gt k0)] at b1
  have b2 : (K : Rat) ≤ 2 * (s : Rat) := by grind
  exact_mod_cast b2
theorem k96_nat : k96 = ((79228162514264337593543950336 : Nat) : Rat) := rfl
theorem rot_bd {r : Nat} (h : r ≤ 2700000) : (rotN r).1 ≤ 79228162514264337593543950336 ∧ 79228162514264337593543950336 ≤ 2 * (rotN r).2 := by
  obtain ⟨h1, h2⟩ := rot_near h
  have hs := sin_in (n := r) (Nat.le_succ_of_le h)
  have hx := xi_in (n := r) (Nat.le_succ_of_le h)
  have hc := cos_in (n := r) (Nat.le_succ_of_le h)
  have g1 : 64 * (r : Rat) / k96 ≤ 1 / 100 := by
    have hr : (r : Rat) ≤ 2700000 := by exact_mod_cast h
    have hr0 : (0 : Rat) ≤ (r : Rat) := by exact_mod_cast Nat.zero_le r
    have hk : 0 ≤ 1 / k96 ∧ 1 / k96 ≤ 1 / 100000000000000000000 := by unfold k96; constructor <;> grind
    have := rmul hr0 hr hk.1 hk.2
    generalize (r : Rat) = q at *
    grind
  rw [k96_nat] at h1 h2 g1
  exact ⟨nat_up (by decide) (nr_up h1 (Rat.le_trans hs.2 hx.2) g1), nat_dn (by decide) (nr_dn h2 hc.1 g1)⟩
theorem rot_gen {K c1 s1 s c : Nat} (hK : 0 < K) (h1 : c1 ≤ K) (h2 : 2 * (K - c1) ≤ s1) (hs : s ≤ K) (hc : K ≤ 2 * c) : s ≤ (s * c1 + c * s1) / K ∧ (c * c1 - s * s1) / K ≤ c := by
  constructor
  · rw [Nat.le_div_iff_mul_le hK]
    obtain ⟨d, rfl⟩ : ∃ d, K = c1 + d := ⟨K - c1, by omega⟩
    rw [Nat.add_sub_cancel_left] at h2
    have e1 : s * d ≤ (c1 + d) * d := Nat.mul_le_mul_right d hs
    have e2 : (c1 + d) * d ≤ 2 * c * d := Nat.mul_le_mul_right d hc
    have e3 : c * (2 * d) ≤ c * s1 := Nat.mul_le_mul_left c h2
    have e4 : 2 * c * d = c * (2 * d) := by rw [Nat.mul_comm 2 c, Nat.mul_assoc]
    rw [Nat.mul_add]
    omega
  · refine Nat.div_le_of_le_mul ?_
    refine Nat.le_trans (Nat.sub_le _ _) ?_
    rw [Nat.mul_comm]
    exact Nat.mul_le_mul_right c h1
theorem rot_grow {r : Nat} (h : r ≤ 2700000) : (rotN r).1 ≤ (rotN (r + 1)).1 ∧ (rotN (r + 1)).2 ≤ (rotN r).2 := by
  obtain ⟨h1, h2⟩ := rot_bd h
  rw [rotN_succ]
  exact rot_gen (by decide) (by decide) (by decide) h1 h2
theorem rot_mono {a : Nat} : ∀ {k : Nat}, a + k ≤ 2700001 → (rotN a).1 ≤ (rotN (a + k)).1 ∧ (rotN (a + k)).2 ≤ (rotN a).2
  | 0, _ => ⟨Nat.le_refl _, Nat.le_refl _⟩
  | k + 1, h => by
    obtain ⟨h1, h2⟩ := rot_mono (a := a) (k := k) (by omega)
    obtain ⟨h3, h4⟩ := rot_grow (r := a + k) (by omega)
    exact ⟨Nat.le_trans h1 h3, Nat.le_trans h4 h2⟩
theorem octS_mono {a b : Nat} (h : a ≤ b) (hb : b ≤ 2700001) : octS a ≤ octS b := by
  obtain ⟨k, rfl⟩ : ∃ k, b = a + k := ⟨b - a, by omega⟩
  unfold octS
  exact Nat.div_le_div_right (rot_mono hb).1
theorem octC_anti {a b : Nat} (h : a ≤ b) (hb : b ≤ 2700001) : octC b ≤ octC a := by
  obtain ⟨k, rfl⟩ : ∃ k, b = a + k := ⟨b - a, by omega⟩
  unfold octC
  exact Nat.div_le_div_right (rot_mono hb).2
theorem oct_of {r x y : Nat} (h : RotN r x y) : octS r = x / 73786976294838206464 ∧ octC r = y / 73786976294838206464 := by
  have e : rotN r = (x, y) := h.1
  unfold octS octC
  rw [e]
  exact ⟨rfl, rfl⟩
theorem oct_mid : octS 2700000 = octC 2700000 := by
  have h := oct_of rot_2700000
  rw [h.1, h.2]
theorem octS_half : octS 1800000 < 536870912 ∧ 536870912 ≤ octS 1800001 := by
  have h := oct_of rot_1800000
  have g := oct_of rot_1800001
  rw [h.1, g.1]
  decide +kernel
theorem sinQ_at (n : Nat) : sinQ n = if n = 0 then 0 else if n = 1800000 then 536870912 else if n = 5400000 then 1073741824 else if 2 * n ≤ 5400000 then octS n else octC (5400000 - n) := by unfold sinQ; rfl
theorem sinQ_0 : sinQ 0 = 0 := by rw [sinQ_at, if_pos rfl]
theorem sinQ_h : sinQ 1800000 = 536870912 := by rw [sinQ_at, if_neg (by decide), if_pos rfl]
theorem sinQ_q : sinQ 5400000 = 1073741824 := by rw [sinQ_at, if_neg (by decide), if_neg (by decide), if_pos rfl]
theorem sinQ_s {n : Nat} (h0 : n ≠ 0) (h1 : n ≠ 1800000) (h2 : n ≤ 2700000) : sinQ n = octS n := by rw [sinQ_at, if_neg h0, if_neg h1, if_neg (by omega), if_pos (by omega)]
theorem sinQ_c {n : Nat} (h2 : 2700000 < n) (h3 : n < 5400000) : sinQ n = octC (5400000 - n) := by rw [sinQ_at, if_neg (by omega), if_neg (by omega), if_neg (by omega), if_neg (by omega)]
theorem sinQ_low {n : Nat} (h : n < 1800000) : sinQ n < 536870912 := by
  by_cases h0 : n = 0
  · subst h0; rw [sinQ_0]; decide
  · rw [sinQ_s h0 (by omega) (by omega)]
    exact Nat.lt_of_le_of_lt (octS_mono (show n ≤ 1800000 by omega) (by omega)) octS_half.1
theorem sinQ_lt {n : Nat} (h : n < 5400000) : sinQ n < 1073741824 := by
  by_cases h0 : n < 1800000
  · have := sinQ_low h0; omega
  · by_cases h1 : n = 1800000
    · subst h1; rw [sinQ_h]; decide
    · by_cases h2 : n ≤ 2700000
      · rw [sinQ_s (by omega) h1 h2]; exact octS_lt (by omega) h2 h1
      · rw [sinQ_c (by omega) h]; exact octC_lt (by omega) (by omega)
theorem sinQ_gt {n : Nat} (h : 1800000 < n) (h2 : n < 5400000) : 536870912 ≤ sinQ n := by
  by_cases h1 : n ≤ 2700000
  · rw [sinQ_s (by omega) (by omega) h1]
    exact Nat.le_trans octS_half.2 (octS_mono (by omega) (by omega))
  · rw [sinQ_c (by omega) h2]
    exact Nat.le_trans octS_half.2 (Nat.le_trans (octS_mono (b := 2700000) (by decide) (by decide)) (Nat.le_trans (Nat.le_of_eq oct_mid) (octC_anti (by omega) (by decide))))
theorem sinQ_mono {a b : Nat} (h : a ≤ b) (hb : b ≤ 5400000) : sinQ a ≤ sinQ b := by
  by_cases hq : b = 5400000
  · subst hq; rw [sinQ_q]
    exact sinQ_le h
  by_cases a0 : a = 0
  · subst a0; rw [sinQ_0]; exact Nat.zero_le _
  by_cases ab : a = b
  · subst ab; exact Nat.le_refl _
  by_cases a1 : a < 1800000
  · have h1 := sinQ_low a1
    by_cases b1 : b < 1800000
    · rw [sinQ_s a0 (by omega) (by omega), sinQ_s (by omega) (by omega) (by omega)]
      exact octS_mono h (by omega)
    · by_cases b2 : b = 1800000
      · subst b2; rw [sinQ_h]; omega
      · have := sinQ_gt (n := b) (by omega) (by omega); omega
  · by_cases a2 : a = 1800000
    · subst a2; rw [sinQ_h]; exact sinQ_gt (by omega) (by omega)
    · by_cases a3 : a ≤ 2700000
      · rw [sinQ_s a0 a2 a3]
        by_cases b3 : b ≤ 2700000
        · rw [sinQ_s (by omega) (by omega) b3]; exact octS_mono h (by omega)
        · rw [sinQ_c (by omega) (by omega)]
          exact Nat.le_trans (octS_mono a3 (by decide)) (Nat.le_trans (Nat.le_of_eq oct_mid) (octC_anti (by omega) (by decide)))
      · rw [sinQ_c (by omega) (by omega), sinQ_c (by omega) (by omega)]
        exact octC_anti (by omega) (by omega)
def hiQ (n : Nat) : Int := (sinQ n : Int) + oneQ n
theorem oneQ_at (n : Nat) : oneQ n = if n = 0 ∨ n = 1800000 ∨ n = 5400000 then 0 else 1 := by
  unfold oneQ exaQ
  by_cases h : n = 0 ∨ n = 1800000 ∨ n = 5400000
  · rw [if_pos h, if_pos (by simp; omega)]
  · rw [if_neg h, if_neg (by simp; omega)]
theorem hiQ_mono {a b : Nat} (h : a ≤ b) (hb : b ≤ 5400000) : hiQ a ≤ hiQ b := by
  have hm := sinQ_mono h hb
  unfold hiQ
  rw [oneQ_at, oneQ_at]
  by_cases hb0 : b = 0
  · have : a = 0 := by omega
    subst this; subst hb0; exact Int.le_refl _
  by_cases hb1 : b = 1800000
  · by_cases ha : a = 1800000
    · subst ha; subst hb1; exact Int.le_refl _
    · have := sinQ_low (n := a) (by omega)
      subst hb1
      rw [sinQ_h]
      split <;> simp <;> omega
  by_cases hb2 : b = 5400000
  · by_cases ha : a = 5400000
    · subst ha; subst hb2; exact Int.le_refl _
    · have := sinQ_lt (n := a) (by omega)
      subst hb2
      rw [sinQ_q]
      split <;> simp <;> omega
  rw [if_neg (c := b = 0 ∨ _) (by omega)]
  split <;> omega
theorem hiQ_in {n : Nat} (h : n ≤ 5400000) : 0 ≤ hiQ n ∧ hiQ n ≤ 1073741824 ∧ (sinQ n : Int) ≤ hiQ n := by
  have h1 := hiQ_mono h (Nat.le_refl _)
  have h2 : hiQ 5400000 = 1073741824 := by unfold hiQ; rw [sinQ_q, oneQ_at, if_pos (by decide)]; rfl
  have h3 := (oneQ_in n).1
  rw [h2] at h1
  unfold hiQ at *
  omega
theorem bLo_at (n : Int) : bLo n = if souB n then -(hiQ (foldT n)) else (sinQ (foldT n) : Int) := by unfold bLo hiQ; rfl
theorem bHi_at (n : Int) : bHi n = if souB n then -(sinQ (foldT n) : Int) else hiQ (foldT n) := by unfold bHi hiQ; rfl
theorem fold_shift (n k : Int) : foldT (n + 21600000 * k) = foldT n ∧ souB (n + 21600000 * k) = souB n := by
  have h : (n + 21600000 * k) % 21600000 = n % 21600000 := by omega
  unfold foldT souB
  rw [h]
  exact ⟨rfl, rfl⟩
theorem b_shift (n k : Int) : bLo (n + 21600000 * k) = bLo n ∧ bHi (n + 21600000 * k) = bHi n := by
  obtain ⟨h1, h2⟩ := fold_shift n k
  rw [bLo_at, bLo_at, bHi_at, bHi_at, h1, h2]
  exact ⟨rfl, rfl⟩
theorem bb_le (n : Int) : bLo n ≤ bHi n ∧ -1073741824 ≤ bLo n ∧ bHi n ≤ 1073741824 := by
  have h := hiQ_in (foldT_le n)
  rw [bLo_at, bHi_at]
  split <;> omega
theorem b_one {n : Int} (h0 : 0 ≤ n) (h1 : n ≤ 5400000) : bLo n = (sinQ n.toNat : Int) ∧ bHi n = hiQ n.toNat := by
  have e : n % 21600000 = n := by omega
  rw [bLo_at, bHi_at]
  unfold souB foldT
  rw [e, decide_eq_false (show ¬ 10800000 < n by omega), if_neg (show ¬ (false = true) by decide), if_neg (show ¬ (false = true) by decide), if_neg (show ¬ 10800000 < n by omega), if_neg (show ¬ 5400000 < n by omega)]
  exact ⟨rfl, rfl⟩
theorem b_two {n : Int} (h0 : 5400000 ≤ n) (h1 : n ≤ 10800000) : bLo n = (sinQ (10800000 - n).toNat : Int) ∧ bHi n = hiQ (10800000 - n).toNat := by
  by_cases h2 : n = 5400000
  · subst h2; exact b_one (by decide) (by decide)
  have e : n % 21600000 = n := by omega
  rw [bLo_at, bHi_at]
  unfold souB foldT
  rw [e, decide_eq_false (show ¬ 10800000 < n by omega), if_neg (show ¬ (false = true) by decide), if_neg (show ¬ (false = true) by decide), if_neg (show ¬ 10800000 < n by omega), if_pos (show 5400000 < n by omega)]
  exact ⟨rfl, rfl⟩
theorem b_three {n : Int} (h0 : 10800000 ≤ n) (h1 : n ≤ 16200000) : bLo n = -hiQ (n - 10800000).toNat ∧ bHi n = -(sinQ (n - 10800000).toNat : Int) := by
  by_cases h2 : n = 10800000
  · subst h2
    have h3 := b_two (n := 10800000) (by decide) (by decide)
    rw [h3.1, h3.2]
    have h4 : hiQ 0 = 0 := by unfold hiQ; rw [sinQ_0, oneQ_at, if_pos (by decide)]; rfl
    show ((sinQ 0 : Nat) : Int) = - hiQ 0 ∧ hiQ 0 = -((sinQ 0 : Nat) : Int)
    rw [h4, sinQ_0]
    decide
  have e : n % 21600000 = n := by omega
  rw [bLo_at, bHi_at]
  unfold souB foldT
  rw [e, decide_eq_true (show 10800000 < n by omega), if_pos rfl, if_pos rfl, if_pos (show 10800000 < n by omega), if_neg (show ¬ 16200000 < n by omega)]
  exact ⟨rfl, rfl⟩
theorem b_four {n : Int} (h0 : -5400000 ≤ n) (h1 : n ≤ 0) : bLo n = -hiQ (-n).toNat ∧ bHi n = -(sinQ (-n).toNat : Int) := by
  have hs := b_shift n 1
  rw [← hs.1, ← hs.2]
  by_cases h2 : n = 0
  · subst h2
    have h3 := b_one (n := 0) (by decide) (by decide)
    have h5 := b_shift 0 1
    rw [h5.1, h5.2, h3.1, h3.2]
    have h4 : hiQ 0 = 0 := by unfold hiQ; rw [sinQ_0, oneQ_at, if_pos (by decide)]; rfl
    show ((sinQ 0 : Nat) : Int) = - hiQ 0 ∧ hiQ 0 = -((sinQ 0 : Nat) : Int)
    rw [h4, sinQ_0]
    decide
  by_cases h3 : n = -5400000
  · subst h3
    have := b_three (n := 16200000) (by decide) (by decide)
    exact this
  have e : (n + 21600000 * 1) % 21600000 = n + 21600000 := by omega
  rw [bLo_at, bHi_at]
  unfold souB foldT
  rw [e, decide_eq_true (by omega), if_pos rfl, if_pos rfl, if_pos (by omega), if_pos (by omega)]
  rw [show (21600000 - (n + 21600000)).toNat = (-n).toNat by omega]
  exact ⟨rfl, rfl⟩
theorem b_up {a b : Int} (h0 : -5400000 ≤ a) (h : a ≤ b) (h1 : b ≤ 5400000) : bLo a ≤ bLo b ∧ bHi a ≤ bHi b := by
  by_cases ha : 0 ≤ a
  · have e1 := b_one ha (by omega)
    have e2 := b_one (n := b) (by omega) h1
    rw [e1.1, e1.2, e2.1, e2.2]
    have m1 := sinQ_mono (a := a.toNat) (b := b.toNat) (by omega) (by omega)
    have m2 := hiQ_mono (a := a.toNat) (b := b.toNat) (by omega) (by omega)
    omega
  · have e1 := b_four h0 (by omega)
    have p1 := hiQ_in (n := (-a).toNat) (by omega)
    by_cases hb : 0 ≤ b
    · have e2 := b_one hb h1
      have p2 := hiQ_in (n := b.toNat) (by omega)
      rw [e1.1, e1.2, e2.1, e2.2]
      omega
    · have e2 := b_four (n := b) (by omega) (by omega)
      rw [e1.1, e1.2, e2.1, e2.2]
      have m1 := sinQ_mono (a := (-b).toNat) (b := (-a).toNat) (by omega) (by omega)
      have m2 := hiQ_mono (a := (-b).toNat) (b := (-a).toNat) (by omega) (by omega)
      omega
theorem b_down {a b : Int} (h0 : 5400000 ≤ a) (h : a ≤ b) (h1 : b ≤ 16200000) : bLo b ≤ bLo a ∧ bHi b ≤ bHi a := by
  by_cases hb : b ≤ 10800000
  · have e1 := b_two h0 (by omega)
    have e2 := b_two (n := b) (by omega) hb
    rw [e1.1, e1.2, e2.1, e2.2]
    have m1 := sinQ_mono (a := (10800000 - b).toNat) (b := (10800000 - a).toNat) (by omega) (by omega)
    have m2 := hiQ_mono (a := (10800000 - b).toNat) (b := (10800000 - a).toNat) (by omega) (by omega)
    omega
  · have e2 := b_three (n := b) (by omega) h1
    have p1 := hiQ_in (n := (b - 10800000).toNat) (by omega)
    by_cases ha : a ≤ 10800000
    · have e1 := b_two h0 ha
      have p2 := hiQ_in (n := (10800000 - a).toNat) (by omega)
      rw [e1.1, e1.2, e2.1, e2.2]
      omega
    · have e1 := b_three (n := a) (by omega) (by omega)
      rw [e1.1, e1.2, e2.1, e2.2]
      have m1 := sinQ_mono (a := (a - 10800000).toNat) (b := (b - 10800000).toNat) (by omega) (by omega)
      have m2 := hiQ_mono (a := (a - 10800000).toNat) (b := (b - 10800000).toNat) (by omega) (by omega)
      omega
theorem b_between {lo hi z : Int} (h1 : lo ≤ z) (h2 : z ≤ hi) (hm : metB lo hi 16200000 = false) : mn (bLo lo) (bLo hi) ≤ bLo z ∧ mn (bHi lo) (bHi hi) ≤ bHi z := by
  unfold metB at hm
  have hm := of_decide_eq_false hm
  obtain ⟨k, hk⟩ : ∃ k, k = (lo + 5400000) / 21600000 := ⟨_, rfl⟩
  have s1 := b_shift lo (-k)
  have s2 := b_shift hi (-k)
  have s3 := b_shift z (-k)
  rw [← s1.1, ← s1.2, ← s2.1, ← s2.2, ← s3.1, ← s3.2]
  have q1 : -5400000 ≤ lo + 21600000 * -k := by omega
  have q2 : hi + 21600000 * -k ≤ 16200000 := by omega
  have q3 : lo + 21600000 * -k ≤ z + 21600000 * -k := by omega
  have q4 : z + 21600000 * -k ≤ hi + 21600000 * -k := by omega
  clear s1 s2 s3 hk hm h1 h2
  generalize lo + 21600000 * -k = x at *
  generalize hi + 21600000 * -k = y at *
  generalize z + 21600000 * -k = u at *
  rw [mn_eq, mn_eq]
  by_cases hu : u ≤ 5400000
  · have := b_up q1 q3 hu
    omega
  · have := b_down (a := u) (b := y) (by omega) q4 q2
    omega
theorem b_betw2 {lo hi z : Int} (h1 : lo ≤ z) (h2 : z ≤ hi) (hm : metB lo hi 5400000 = false) : bLo z ≤ mx (bLo lo) (bLo hi) ∧ bHi z ≤ mx (bHi lo) (bHi hi) := by
  unfold metB at hm
  have hm := of_decide_eq_false hm
  obtain ⟨k, hk⟩ : ∃ k, k = (lo - 5400000) / 21600000 := ⟨_, rfl⟩
  have s1 := b_shift lo (-k)
  have s2 := b_shift hi (-k)
  have s3 := b_shift z (-k)
  rw [← s1.1, ← s1.2, ← s2.1, ← s2.2, ← s3.1, ← s3.2]
  have q1 : 5400000 ≤ lo + 21600000 * -k := by omega
  have q2 : hi + 21600000 * -k ≤ 27000000 := by omega
  have q3 : lo + 21600000 * -k ≤ z + 21600000 * -k := by omega
  have q4 : z + 21600000 * -k ≤ hi + 21600000 * -k := by omega
  clear s1 s2 s3 hk hm h1 h2
  generalize lo + 21600000 * -k = x at *
  generalize hi + 21600000 * -k = y at *
  generalize z + 21600000 * -k = u at *
  rw [mx_eq, mx_eq]
  by_cases hu : u ≤ 16200000
  · have := b_down q1 q3 hu
    omega
  · have e1 := b_shift u (-1)
    have e2 := b_shift y (-1)
    have := b_up (a := u + 21600000 * -1) (b := y + 21600000 * -1) (by omega) (by omega) (by omega)
    rw [e1.1, e1.2, e2.1, e2.2] at this
    omega
theorem met_part {lo hi x y n : Int} (h1 : lo ≤ x) (h3 : y ≤ hi) (hm : metB x y n = true) (h2 : x ≤ y) : metB lo hi n = true := by
  unfold metB at *
  have hm := of_decide_eq_true hm
  refine decide_eq_true ?_
  omega
theorem encL_at (lo hi : Int) : encL lo hi = if metB lo hi 16200000 then -1073741824 else mn (bLo lo) (bLo hi) := by unfold encL; rfl
theorem encH_at (lo hi : Int) : encH lo hi = if metB lo hi 5400000 then 1073741824 else mx (bHi lo) (bHi hi) := by unfold encH; rfl
theorem enc_in {lo hi : Int} : -1073741824 ≤ encL lo hi ∧ encL lo hi ≤ encH lo hi ∧ encH lo hi ≤ 1073741824 := by
  have h1 := bb_le lo
  have h2 := bb_le hi
  rw [encL_at, encH_at, mn_eq, mx_eq]
  split <;> split <;> omega
theorem enc_part {lo hi x y : Int} (h1 : lo ≤ x) (h2 : x ≤ y) (h3 : y ≤ hi) : encL lo hi ≤ encL x y ∧ encH x y ≤ encH lo hi := by
  constructor
  · have h4 := (enc_in (lo := x) (hi := y)).1
    rw [encL_at lo hi]
    cases hm : metB lo hi 16200000
    · rw [if_neg (by decide), encL_at]
      have hm2 : metB x y 16200000 = false := by
        cases h5 : metB x y 16200000
        · rfl
        · rw [met_part h1 h3 h5 h2] at hm; cases hm
      rw [hm2, if_neg (by decide)]
      have p := (b_between (z := x) h1 (by omega) hm).1
      have q := (b_between (z := y) (by omega) h3 hm).1
      rw [mn_eq (bLo x)]
      omega
    · rw [if_pos rfl]; exact h4
  · have h4 := (enc_in (lo := x) (hi := y)).2.2
    rw [encH_at lo hi]
    cases hm : metB lo hi 5400000
    · rw [if_neg (by decide), encH_at]
      have hm2 : metB x y 5400000 = false := by
        cases h5 : metB x y 5400000
        · rfl
        · rw [met_part h1 h3 h5 h2] at hm; cases hm
      rw [hm2, if_neg (by decide)]
      have p := (b_betw2 (z := x) h1 (by omega) hm).2
      have q := (b_betw2 (z := y) (by omega) h3 hm).2
      rw [mx_eq (bHi x)]
      omega
    · rw [if_pos rfl]; exact h4
theorem bLo_pos {n : Int} (h0 : 0 ≤ n) (h1 : n ≤ 10800000) : 0 ≤ bLo n := by
  by_cases h : n ≤ 5400000
  · rw [(b_one h0 h).1]; omega
  · rw [(b_two (n := n) (by omega) h1).1]; omega
theorem enc_pos {lo hi : Int} (h0 : 0 ≤ lo) (h : lo ≤ hi) (h1 : hi ≤ 10800000) : 0 ≤ encL lo hi := by
  have hm : metB lo hi 16200000 = false := by
    unfold metB
    refine decide_eq_false ?_
    omega
  have p := bLo_pos h0 (by omega)
  have q := bLo_pos (n := hi) (by omega) h1
  rw [encL_at, hm, if_neg (by decide), mn_eq]
  omega
end Go.Proofs.YtnnmfdeeicpdlaaGreat
/- Arcsines: the greatest angle whose sine is at most a number. Plain laws, no walk. -/
namespace Go.Proofs.YtnnmfdeeicpdlaaGreat

def belI (n v : Int) : Int := if bHi n ≤ v ∧ bLo n < v then -1 else if v ≤ bLo n ∧ v < bHi n then 1 else if v = bLo n then 0 else if v < bLo n then 1 else -1
theorem bHi_one (n : Int) : bHi n ≤ bLo n + 1 := by
  have h := oneQ_in (foldT n)
  unfold bHi bLo
  split <;> omega
theorem belI_iff (n v : Int) : belI n v ≤ 0 ↔ bHi n ≤ v := by
  have h1 := (bb_le n).1
  have h2 := bHi_one n
  unfold belI
  split
  · omega
  · split
    · omega
    · split
      · omega
      · split <;> omega
theorem b_bot : bHi (-5400000) = -1073741824 := by
  have h := (b_four (n := -5400000) (by decide) (by decide)).2
  rw [h, show (-(-5400000 : Int)).toNat = 5400000 from rfl, sinQ_q]; rfl
theorem b_topp : bHi 5400000 = 1073741824 := by
  have h := (b_one (n := 5400000) (by decide) (by decide)).2
  rw [h, show ((5400000 : Int)).toNat = 5400000 from rfl]
  unfold hiQ oneQ
  rw [sinQ_q]; rfl
structure IsAsn (v r : Int) : Prop where
  lo : -5400000 ≤ r
  hi : r ≤ 5400000
  le : bHi r ≤ v
  gt : r = 5400000 ∨ v < bHi (r + 1)
theorem IsAsn.uniq {v r s : Int} (h : IsAsn v r) (g : IsAsn v s) : r = s := by
  obtain ⟨a1, a2, a3, a4⟩ := h
  obtain ⟨b1, b2, b3, b4⟩ := g
  rcases Int.lt_trichotomy r s with h | h | h
  · have := (b_up (a := r + 1) (b := s) (by omega) (by omega) b2).2
    omega
  · exact h
  · have := (b_up (a := s + 1) (b := r) (by omega) (by omega) a2).2
    omega
theorem isAsn_ex {v : Int} (hv : -1073741824 ≤ v) : ∃ r, IsAsn v r := by
  have key : ∀ k : Nat, k ≤ 10800000 → (∃ r, IsAsn v r) ∨ bHi (-5400000 + k) ≤ v := by
    intro k
    induction k with
    | zero => intro _; right; rw [show (-5400000 : Int) + ((0 : Nat) : Int) = -5400000 from rfl, b_bot]; exact hv
    | succ k ih =>
      intro hk
      rcases ih (by omega) with h | h
      · exact .inl h
      · by_cases c : bHi (-5400000 + ((k + 1 : Nat) : Int)) ≤ v
        · exact .inr c
        · refine .inl ⟨-5400000 + (k : Int), by omega, by omega, h, .inr ?_⟩
          rw [show (-5400000 : Int) + (k : Int) + 1 = -5400000 + ((k + 1 : Nat) : Int) by omega]
          omega
  rcases key 10800000 (Nat.le_refl _) with h | h
  · exact h
  · exact ⟨5400000, by decide, by decide, h, .inl rfl⟩
noncomputable def asnI (v : Int) : Int := by
  classical
  exact if h : ∃ r, IsAsn v r then h.choose else 0
theorem asnI_is {v : Int} (hv : -1073741824 ≤ v) : IsAsn v (asnI v) := by
  have h := isAsn_ex hv
  unfold asnI
  rw [dif_pos h]
  exact h.choose_spec
theorem asnI_eq {v r : Int} (h : IsAsn v r) : asnI v = r := by
  have hv : -1073741824 ≤ v := by
    have h1 := (bb_le r).2.1
    have h2 := (bb_le r).1
    have := h.le
    omega
  exact (asnI_is hv).uniq h
theorem asnI_in {v : Int} (hv : -1073741824 ≤ v) : -5400000 ≤ asnI v ∧ asnI v ≤ 5400000 := ⟨(asnI_is hv).lo, (asnI_is hv).hi⟩
theorem asnI_ge {v n : Int} (h0 : -5400000 ≤ n) (h1 : n ≤ 5400000) (h : bHi n ≤ v) : n ≤ asnI v := by
  have hv : -1073741824 ≤ v := by
    have a1 := (bb_le n).2.1
    have a2 := (bb_le n).1
    omega
  obtain ⟨a1, a2, a3, a4⟩ := asnI_is hv
  rcases a4 with a4 | a4
  · omega
  · rcases (show asnI v < n ∨ n ≤ asnI v by omega) with h2 | h2
    · have := (b_up (a := asnI v + 1) (b := n) (by omega) (by omega) h1).2
      omega
    · exact h2
theorem asnI_mono {v u : Int} (hv : -1073741824 ≤ v) (h : v ≤ u) : asnI v ≤ asnI u := by
  obtain ⟨a1, a2, a3, a4⟩ := asnI_is hv
  exact asnI_ge a1 a2 (by omega)
theorem asnI_lt {v n : Int} (hv : -1073741824 ≤ v) (h0 : -5400000 ≤ n) (h : v < bHi n) : asnI v < n := by
  obtain ⟨a1, a2, a3, a4⟩ := asnI_is hv
  rcases (show asnI v < n ∨ n ≤ asnI v by omega) with h2 | h2
  · exact h2
  · have := (b_up (a := n) (b := asnI v) h0 h2 a2).2
    omega
def asE (lo hi : Int) : Int := if (decide (lo ≤ hi ∧ -2147483648 ≤ lo ∧ hi ≤ 2147483648)) = false then 1 else if mn hi 1073741824 < mx lo (-1073741824) then 2 else 0
noncomputable def asL (lo hi : Int) : Int := if asE lo hi = 0 then asnI (mx lo (-1073741824)) else 0
noncomputable def asH (lo hi : Int) : Int := if asE lo hi = 0 then -(asnI (-(mn hi 1073741824))) else 0
end Go.Proofs.YtnnmfdeeicpdlaaGreat
/- Products of intervals, scaled by a rate: plain laws, no walk. -/
namespace Go.Proofs.YtnnmfdeeicpdlaaGreat
open Go.RowKit

def m4 (a0 a1 b0 b1 : Int) : Int := mn (mn (mn (a0 * b0) (a0 * b1)) (a1 * b0)) (a1 * b1)
def x4 (a0 a1 b0 b1 : Int) : Int := mx (mx (mx (a0 * b0) (a0 * b1)) (a1 * b0)) (a1 * b1)
theorem mn4_is (x y z u : Int) : (mn (mn (mn x y) z) u ≤ x ∧ mn (mn (mn x y) z) u ≤ y ∧ mn (mn (mn x y) z) u ≤ z ∧ mn (mn (mn x y) z) u ≤ u) ∧ (mn (mn (mn x y) z) u = x ∨ mn (mn (mn x y) z) u = y ∨ mn (mn (mn x y) z) u = z ∨ mn (mn (mn x y) z) u = u) := by
  simp only [mn_eq]; omega
theorem mx4_is (x y z u : Int) : (x ≤ mx (mx (mx x y) z) u ∧ y ≤ mx (mx (mx x y) z) u ∧ z ≤ mx (mx (mx x y) z) u ∧ u ≤ mx (mx (mx x y) z) u) ∧ (mx (mx (mx x y) z) u = x ∨ mx (mx (mx x y) z) u = y ∨ mx (mx (mx x y) z) u = z ∨ mx (mx (mx x y) z) u = u) := by
  simp only [mx_eq]; omega
theorem lin1 {a0 a1 x k : Int} (h0 : a0 ≤ x) (h1 : x ≤ a1) : (a0 * k ≤ x * k ∨ a1 * k ≤ x * k) ∧ (x * k ≤ a0 * k ∨ x * k ≤ a1 * k) := by
  rcases Int.le_total 0 k with h | h
  · exact ⟨.inl (Int.mul_le_mul_of_nonneg_right h0 h), .inr (Int.mul_le_mul_of_nonneg_right h1 h)⟩
  · exact ⟨.inr (Int.mul_le_mul_of_nonpos_right h1 h), .inl (Int.mul_le_mul_of_nonpos_right h0 h)⟩
theorem box_mul {a0 a1 b0 b1 x y : Int} (h0 : a0 ≤ x) (h1 : x ≤ a1) (g0 : b0 ≤ y) (g1 : y ≤ b1) : m4 a0 a1 b0 b1 ≤ x * y ∧ x * y ≤ x4 a0 a1 b0 b1 := by
  obtain ⟨e1, e2⟩ := lin1 (k := y) h0 h1
  obtain ⟨f1, f2⟩ := lin1 (k := a0) g0 g1
  obtain ⟨i1, i2⟩ := lin1 (k := a1) g0 g1
  rw [Int.mul_comm b0 a0, Int.mul_comm b1 a0, Int.mul_comm y a0] at f1 f2
  rw [Int.mul_comm b0 a1, Int.mul_comm b1 a1, Int.mul_comm y a1] at i1 i2
  have hm := (mn4_is (a0 * b0) (a0 * b1) (a1 * b0) (a1 * b1)).1
  have hx := (mx4_is (a0 * b0) (a0 * b1) (a1 * b0) (a1 * b1)).1
  unfold m4 x4
  omega
theorem box_part {a0 a1 b0 b1 c0 c1 d0 d1 : Int} (h0 : a0 ≤ c0) (h : c0 ≤ c1) (h1 : c1 ≤ a1) (g0 : b0 ≤ d0) (g : d0 ≤ d1) (g1 : d1 ≤ b1) : m4 a0 a1 b0 b1 ≤ m4 c0 c1 d0 d1 ∧ x4 c0 c1 d0 d1 ≤ x4 a0 a1 b0 b1 := by
  have p1 := box_mul (a0 := a0) (a1 := a1) (b0 := b0) (b1 := b1) (x := c0) (y := d0) h0 (by omega) g0 (by omega)
  have p2 := box_mul (a0 := a0) (a1 := a1) (b0 := b0) (b1 := b1) (x := c0) (y := d1) h0 (by omega) (show b0 ≤ d1 by omega) g1
  have p3 := box_mul (a0 := a0) (a1 := a1) (b0 := b0) (b1 := b1) (x := c1) (y := d0) (show a0 ≤ c1 by omega) h1 g0 (by omega)
  have p4 := box_mul (a0 := a0) (a1 := a1) (b0 := b0) (b1 := b1) (x := c1) (y := d1) (show a0 ≤ c1 by omega) h1 (show b0 ≤ d1 by omega) g1
  have hm := (mn4_is (c0 * d0) (c0 * d1) (c1 * d0) (c1 * d1)).2
  have hx := (mx4_is (c0 * d0) (c0 * d1) (c1 * d0) (c1 * d1)).2
  constructor
  · show m4 a0 a1 b0 b1 ≤ mn (mn (mn (c0 * d0) (c0 * d1)) (c1 * d0)) (c1 * d1); omega
  · show mx (mx (mx (c0 * d0) (c0 * d1)) (c1 * d0)) (c1 * d1) ≤ x4 a0 a1 b0 b1; omega
theorem prod_in {X x k : Int} (h0 : 0 ≤ X) (hX : -X ≤ x ∧ x ≤ X) (hK : -X ≤ k ∧ k ≤ X) : -(X * X) ≤ x * k ∧ x * k ≤ X * X := by
  have h1 : (x * k).natAbs ≤ X.natAbs * X.natAbs := by rw [Int.natAbs_mul]; exact Nat.mul_le_mul (by omega) (by omega)
  have h2 : ((X.natAbs * X.natAbs : Nat) : Int) = X * X := by rw [Int.natCast_mul, Int.natAbs_of_nonneg h0]
  rw [← h2]
  omega
theorem box_in {X a0 a1 b0 b1 : Int} (h0 : 0 ≤ X) (ha : -X ≤ a0 ∧ a0 ≤ X) (ha1 : -X ≤ a1 ∧ a1 ≤ X) (hb : -X ≤ b0 ∧ b0 ≤ X) (hb1 : -X ≤ b1 ∧ b1 ≤ X) : -(X * X) ≤ m4 a0 a1 b0 b1 ∧ m4 a0 a1 b0 b1 ≤ x4 a0 a1 b0 b1 ∧ x4 a0 a1 b0 b1 ≤ X * X := by
  have p1 := prod_in h0 ha hb
  have p2 := prod_in h0 ha hb1
  have p3 := prod_in h0 ha1 hb
  have p4 := prod_in h0 ha1 hb1
  have hm := mn4_is (a0 * b0) (a0 * b1) (a1 * b0) (a1 * b1)
  have hx := mx4_is (a0 * b0) (a0 * b1) (a1 * b0) (a1 * b1)
  unfold m4 x4
  omega
def mulL (a0 a1 b0 b1 : Int) : Int := m4 a0 a1 b0 b1 / 1073741824
def mulH (a0 a1 b0 b1 : Int) : Int := -((-(x4 a0 a1 b0 b1)) / 1073741824)
theorem mul_unit {a0 a1 b0 b1 : Int} (ha : -1073741824 ≤ a0) (ha1 : a0 ≤ a1) (ha2 : a1 ≤ 1073741824) (hb : -1073741824 ≤ b0) (hb1 : b0 ≤ b1) (hb2 : b1 ≤ 1073741824) :
    -1073741824 ≤ mulL a0 a1 b0 b1 ∧ mulL a0 a1 b0 b1 ≤ mulH a0 a1 b0 b1 ∧ mulH a0 a1 b0 b1 ≤ 1073741824 := by
  have h := box_in (X := 1073741824) (by decide) (a0 := a0) (a1 := a1) (b0 := b0) (b1 := b1) ⟨ha, by omega⟩ ⟨by omega, ha2⟩ ⟨hb, by omega⟩ ⟨by omega, hb2⟩
  unfold mulL mulH
  omega
theorem mul_part {a0 a1 b0 b1 c0 c1 d0 d1 : Int} (h0 : a0 ≤ c0) (h : c0 ≤ c1) (h1 : c1 ≤ a1) (g0 : b0 ≤ d0) (g : d0 ≤ d1) (g1 : d1 ≤ b1) : mulL a0 a1 b0 b1 ≤ mulL c0 c1 d0 d1 ∧ mulH c0 c1 d0 d1 ≤ mulH a0 a1 b0 b1 := by
  have := box_part h0 h h1 g0 g g1
  unfold mulL mulH
  omega
theorem mul_pos {a0 a1 b0 b1 : Int} (h0 : 0 ≤ a0) (h : a0 ≤ a1) (g0 : 0 ≤ b0) (g : b0 ≤ b1) : 0 ≤ mulL a0 a1 b0 b1 := by
  have p1 := Int.mul_nonneg h0 g0
  have p2 := Int.mul_nonneg h0 (show 0 ≤ b1 by omega)
  have p3 := Int.mul_nonneg (show 0 ≤ a1 by omega) g0
  have p4 := Int.mul_nonneg (show 0 ≤ a1 by omega) (show 0 ≤ b1 by omega)
  have hm := (mn4_is (a0 * b0) (a0 * b1) (a1 * b0) (a1 * b1)).2
  unfold mulL m4
  omega
theorem mul_neg {a0 a1 b0 b1 : Int} (h0 : 0 ≤ a0) (h : a0 ≤ a1) (g0 : b0 ≤ b1) (g : b1 ≤ 0) : mulH a0 a1 b0 b1 ≤ 0 := by
  have p1 := Int.mul_nonpos_of_nonneg_of_nonpos h0 (show b0 ≤ 0 by omega)
  have p2 := Int.mul_nonpos_of_nonneg_of_nonpos h0 g
  have p3 := Int.mul_nonpos_of_nonneg_of_nonpos (show 0 ≤ a1 by omega) (show b0 ≤ 0 by omega)
  have p4 := Int.mul_nonpos_of_nonneg_of_nonpos (show 0 ≤ a1 by omega) g
  have hx := (mx4_is (a0 * b0) (a0 * b1) (a1 * b0) (a1 * b1)).2
  unfold mulH x4
  omega
end Go.Proofs.YtnnmfdeeicpdlaaGreat
