/- Contracts and plain laws, several texts in one: TgS; TgB -/
import Derived.Test.YtkhhdpndcidmgaaGreatProg
import Derived.WalkKit
import Derived.WalkSpells
import Derived.WalkLawsBesides
import Derived.Lib.Hide
import Derived.BigQuiet
import Derived.Test.YtkhhdpndcidmgaaGreatSAC
import Derived.Test.YtkhhdpndcidmgaaGreatSAD
import Derived.Test.YtkhhdpndcidmgaaGreatSAE
import Derived.Test.YtkhhdpndcidmgaaGreatSAF
import Derived.Test.YtkhhdpndcidmgaaGreatSAS
import Derived.Test.YtkhhdpndcidmgaaGreatSAU
/- The sine of an angle of the first quadrant. -/
namespace Go.Proofs.YtkhhdpndcidmgaaGreat
open Go.RowKit

def octS (r : Nat) : Nat := (rotN r).1 / 73786976294838206464
def octC (r : Nat) : Nat := (rotN r).2 / 73786976294838206464
theorem octS_bt {r : Nat} (h1 : 1 ≤ r) (h2 : r ≤ 2700000) (h3 : r ≠ 1800000) : Bt (octS r) (sinT r) := bt_of h2 ((rot_all h1 h2).1 h3) (rot_near h2).1
theorem octC_bt {r : Nat} (h1 : 1 ≤ r) (h2 : r ≤ 2700000) : Bt (octC r) (cosT r) := bt_of h2 (rot_all h1 h2).2 (rot_near h2).2
theorem bt_lt {f : Nat} {v : Rat} (h : Bt f v) (hv : v ≤ 1) : f < 1073741824 := by
  obtain ⟨b1, b2⟩ := h
  have : (f : Rat) < 1073741824 := by grind
  exact_mod_cast this
theorem octS_lt {r : Nat} (h1 : 1 ≤ r) (h2 : r ≤ 2700000) (h3 : r ≠ 1800000) : octS r < 1073741824 := by
  have h4 : r ≤ 2700001 := Nat.le_succ_of_le h2
  exact bt_lt (octS_bt h1 h2 h3) (Rat.le_trans (sin_in h4).2 (Rat.le_trans (xi_in h4).2 (by grind)))
theorem octC_lt {r : Nat} (h1 : 1 ≤ r) (h2 : r ≤ 2700000) : octC r < 1073741824 :=
  bt_lt (octC_bt h1 h2) (cos_in (Nat.le_succ_of_le h2)).2
attribute [irreducible] octS octC
def sinQ (n : Nat) : Nat := if n = 0 then 0 else if n = 1800000 then 536870912 else if n = 5400000 then 1073741824 else if 2 * n ≤ 5400000 then octS n else octC (5400000 - n)
def exaQ (n : Nat) : Bool := n == 0 || n == 1800000 || n == 5400000
theorem top34 {r : List Nat} (h : Wd 4 r) : val4 r / 107839786668602559178668060348078522694548577690162289924414440996864 = nt r 0 / 17179869184 := by
  have e := valB_drop (B := 18446744073709551616) (l := r) (i := 0) (by rw [h.len]; decide)
  rw [List.drop_zero, h.len] at e
  have hlt := valB_lt (B := 18446744073709551616) (by decide) (l := r.drop 1) (fun x hx => h.mem x (List.mem_of_mem_drop hx))
  rw [List.length_drop, h.len] at hlt
  unfold val4
  rw [e]
  rw [show (107839786668602559178668060348078522694548577690162289924414440996864 : Nat) = 18446744073709551616 ^ (4 - 0 - 1) * 17179869184 by decide +kernel, ← Nat.div_div_eq_div_mul]
  rw [show 4 - 1 = 4 - 0 - 1 by rfl] at hlt
  generalize 18446744073709551616 ^ (4 - 0 - 1) = P at *
  rw [Nat.add_comm, Nat.add_mul_div_right _ _ (by omega), Nat.div_eq_of_lt hlt, Nat.zero_add]
theorem sin_cell {r : Nat} {x u p s : List Nat} {y c : Nat} (h1 : 1 ≤ r) (h2 : r ≤ 2700000) (h3 : r ≠ 1800000) (hx : val4 x = r * piN / 10800000) (hu : Wd 4 u) (hs : Wd 4 s)
    (q1 : y * b256 ≤ val4 x * val4 x) (q2 : val4 x * val4 x ≤ (y + 2) * b256) (hc : ChainN b256 y 2 34 (val4 u))
    (p1 : val4 p * b256 ≤ val4 x * val4 u) (p2 : val4 x * val4 u ≤ (val4 p + 2) * b256) (c1 : c ≤ 1) (e : val4 s + val4 p = val4 x + c * b256) : nt s 0 / 17179869184 = octS r := by
  have hul : val4 u < b256 := by rw [← b256_pow]; exact val4_lt hu
  have hsl : val4 s < b256 := by rw [← b256_pow]; exact val4_lt hs
  have hp : val4 p ≤ val4 x := by
    have h4 : val4 p * b256 ≤ val4 x * b256 := Nat.le_trans p1 (Nat.mul_le_mul_left _ (Nat.le_of_lt hul))
    exact Nat.le_of_mul_le_mul_right h4 b256_pos
  have hc2 : c = 0 := by
    have : c = 0 ∨ c = 1 := by omega
    rcases this with rfl | rfl
    · rfl
    · omega
  subst hc2
  rw [← top34 hs]
  exact cell_of (ser_sin h2 hx q1 q2 hc p1 p2 (by omega)) (octS_bt h1 h2 h3)
theorem one_out {f : Nat} {v : Rat} (hf : f < 1073741824) (hb : Bt f v) (hn : Nr (1 - ((0 : Nat) : Rat) / (b256 : Rat)) v sml) : False := by
  have h6 : (f : Rat) + 1 ≤ 1073741824 := by exact_mod_cast hf
  have h7 := hn.1
  have h8 : ((0 : Nat) : Rat) / (b256 : Rat) = 0 := by simp [Rat.div_def]
  rw [h8] at h7
  have h9 := hb.2
  unfold sml at h7
  grind
theorem cos_cell {r : Nat} {x u z s : List Nat} {y c : Nat} (h1 : 1 ≤ r) (h2 : r ≤ 2700000) (hx : val4 x = r * piN / 10800000) (hu : Wd 4 u) (hs : Wd 4 s)
    (q1 : y * b256 ≤ val4 x * val4 x) (q2 : val4 x * val4 x ≤ (y + 2) * b256) (hc : ChainN b256 y 1 34 (val4 u)) (hz : val4 z = 0) (c1 : c ≤ 1) (e : val4 s + val4 u = val4 z + c * b256) : nt s 0 / 17179869184 = octC r := by
  have hul : val4 u < b256 := by rw [← b256_pow]; exact val4_lt hu
  have hn := ser_cos h2 hx q1 q2 hc
  have hb := octC_bt h1 h2
  rw [← top34 hs]
  rw [hz, Nat.zero_add] at e
  have hu0 : val4 u ≠ 0 := fun h0 => by
    rw [h0] at hn
    exact one_out (octC_lt h1 h2) hb hn
  have hc2 : c = 1 := by
    have : c = 0 ∨ c = 1 := by omega
    rcases this with rfl | rfl
    · omega
    · rfl
  subst hc2
  have e2 : (val4 s : Rat) / (b256 : Rat) = 1 - (val4 u : Rat) / (b256 : Rat) := by
    have h5 : (val4 s : Rat) + (val4 u : Rat) = (b256 : Rat) := by exact_mod_cast (show val4 s + val4 u = b256 by omega)
    have hb := b256_rat
    rw [show (val4 s : Rat) = (b256 : Rat) - (val4 u : Rat) by grind]
    grind
  exact cell_of (by rw [e2]; exact hn) hb

theorem sin_wrap {a c : Nat} (h : a / 17179869184 = c) (hc : c < 1073741824) : wrap64 ((a : Int) / 17179869184) = (c : Int) := by
  have e : (a : Int) / 17179869184 = (c : Int) := by omega
  rw [e]
  unfold wrap64
  omega
theorem zero4 : Wd 4 [0, 0, 0, 0] ∧ val4 [0, 0, 0, 0] = 0 := ⟨⟨rfl, fun i => by
  unfold nt
  match i with
  | 0 => decide
  | 1 => decide
  | 2 => decide
  | 3 => decide
  | i + 4 => simp⟩, by decide +kernel⟩
set_option maxHeartbeats 4000000 in
set_option maxRecDepth 100000 in
theorem tg_sine (n : Nat) (hn : n ≤ 5400000) (w : World) :
    Calls Tryz.prog 116 #[.int .i64 (n : Int)] w fun e w' => e = .returned (.tuple #[.int .i64 (sinQ n : Int), .bool (exaQ n)]) ∧ ∃ d, w' = bw w d := by
  refine lay_start ?_
  by_cases c0 : n = 0
  · subst c0
    go_enter Tryz.func116, Tryz.ntmps116
    go_wp2_with fail
    exact bodyPost_ret (v := .tuple #[.int .i64 0, .bool true]) (by simp [results, Tryz.results116, go_sem]) rfl ⟨rfl, lay_ex _ _⟩
  by_cases c1 : n = 1800000
  · subst c1
    go_enter Tryz.func116, Tryz.ntmps116
    go_wp2_with fail
    exact bodyPost_ret (v := .tuple #[.int .i64 536870912, .bool true]) (by simp [results, Tryz.results116, go_sem]) rfl ⟨rfl, lay_ex _ _⟩
  by_cases c2 : n = 5400000
  · subst c2
    go_enter Tryz.func116, Tryz.ntmps116
    go_wp2_with fail
    exact bodyPost_ret (v := .tuple #[.int .i64 1073741824, .bool true]) (by simp [results, Tryz.results116, go_sem]) rfl ⟨rfl, lay_ex _ _⟩
  have b0 : ((n : Int) == 0) = false := beq_eq_false_iff_ne.2 (by omega)
  have b1 : ((n : Int) == 1800000) = false := beq_eq_false_iff_ne.2 (by omega)
  have b2 : ((n : Int) == 5400000) = false := beq_eq_false_iff_ne.2 (by omega)
  have b3 : exaQ n = false := by unfold exaQ; simp [c0, c1, c2]
  rw [b3]
  obtain ⟨N2, hN2⟩ : ∃ N2 : Int, 2 * (n : Int) = N2 := ⟨_, rfl⟩
  have kN2 : IntKind.i64.wrap N2 = N2 := IntWalk.i64_in _ (by omega)
  by_cases c3 : 2 * n ≤ 5400000
  · have b4 : N2 ≤ 5400000 := by omega
    rw [show sinQ n = octS n by unfold sinQ; rw [if_neg c0, if_neg c1, if_neg c2, if_pos c3]]
    have HR := Lib.hid (fun W => tr_radians n (by omega) W)
    unfold nuV at HR
    go_enter Tryz.func116, Tryz.ntmps116
    go_wp2_with (go_at_call 149; refine (HR.out _).mono ?_; rintro e w' ⟨x, dx, rfl, rfl, hx, hx2⟩)
    have HX := Lib.hid (And.intro hx hx2)
    clear hx hx2 HR
    have HL := Lib.hid (fun W => tr_less x 1 HX.out.1 (by decide) W)
    unfold nuV at HL
    rw [show ((1 : Nat) : Int) = 1 from rfl] at HL
    go_wp2_with fail
    refine region_mixS 6 [(0, 0), (1, 0), (2, 0), (3, 1), (4, 1), (5, 1), (6, 3)] (by kernel_rfl) (by kernel_rfl) (by kernel_rfl) rfl ?_
    repeat (first | (refine wpMS_pure rfl (fun K hK => ?_); go_simp; refine hK _ ?_; clear hK K) | (refine wpMS_quiet rfl (fun K hK => ?_); go_simp; first | (refine hK _ ?_; clear hK K) | (apply Exists.intro; refine ⟨fun _ => ?_, hK _ ?_⟩; (first | fail); clear hK K)))
    refine wpMS_special rfl (fun K hK e1 => ?_)
    rw [lay_bw]
    go_simp
    refine (HL.out _).mono ?_
    rintro e w' ⟨u, du, rfl, rfl, hu, y, hy1, hy2, hcn⟩
    have HU := Lib.hid (And.intro hu (And.intro hy1 (And.intro hy2 hcn)))
    clear hu hy1 hy2 hcn HL
    refine ⟨_, rfl, hK _ _ (lay_in w [.inr du, .inr e1] _) ?_⟩
    clear hK K
    have HM := Lib.hid (fun W => nm_mul x u HX.out.1 HU.out.1 W)
    unfold nuV at HM
    refine wpMS_special rfl (fun K hK e2 => ?_)
    rw [lay_bw, lay_bw]
    go_simp
    refine (HM.out _).mono ?_
    rintro e w' ⟨p, dp, rfl, rfl, hp, hp1, hp2⟩
    rw [b256_pow] at hp1 hp2
    have HP := Lib.hid (And.intro hp (And.intro hp1 hp2))
    clear hp hp1 hp2 HM
    refine ⟨_, rfl, hK _ _ (lay_in w [.inr dp, .inr e2, .inr du, .inr e1] _) ?_⟩
    clear hK K
    have HS := Lib.hid (fun W => nm_sub x p HX.out.1 HP.out.1 W)
    unfold nuV at HS
    refine wpMS_special rfl (fun K hK e3 => ?_)
    rw [lay_bw, lay_bw]
    go_simp
    refine (HS.out _).mono ?_
    rintro e w' ⟨r, dr, rfl, rfl, hr, c, hc1, hr2⟩
    rw [b256_pow] at hr2
    have HE := Lib.hid (sin_cell (by omega) (by omega) c1 HX.out.2 HU.out.1 hr HU.out.2.1 HU.out.2.2.1 HU.out.2.2.2 HP.out.2.1 HP.out.2.2 hc1 hr2)
    have HB := Lib.hid (octS_lt (r := n) (by omega) (by omega) c1)
    clear hr hr2 HS hc1
    refine ⟨_, rfl, hK _ _ (lay_in w [.inr dr, .inr e3, .inr dp, .inr e2, .inr du, .inr e1] _) ?_⟩
    clear hK K
    refine wpMS_store rfl (fun K hK e4 => ?_)
    rw [lay_bw, lay_bw]
    go_simp
    refine hK _ _ ?_
    clear hK K
    refine wpMS_nil (fun e5 => ?_)
    rw [lay_bw]
    go_wp2_with fail
    rw [sin_wrap HE.out HB.out]
    exact bodyPost_ret (v := .tuple #[.int .i64 (octS n : Int), .bool false]) (by simp [results, Tryz.results116, go_sem]) rfl ⟨rfl, lay_ex _ _⟩
  · have b4 : ¬ N2 ≤ 5400000 := by omega
    rw [show sinQ n = octC (5400000 - n) by unfold sinQ; rw [if_neg c0, if_neg c1, if_neg c2, if_neg c3]]
    obtain ⟨m, hm⟩ : ∃ m, 5400000 - n = m := ⟨_, rfl⟩
    rw [hm]
    have hm2 : (5400000 : Int) - (n : Int) = (m : Int) := by omega
    have km : IntKind.i64.wrap (m : Int) = (m : Int) := IntWalk.i64_in _ (by omega)
    have HR := Lib.hid (fun W => tr_radians m (by omega) W)
    unfold nuV at HR
    go_enter Tryz.func116, Tryz.ntmps116
    go_wp2_with (go_at_call 149; refine (HR.out _).mono ?_; rintro e w' ⟨x, dx, rfl, rfl, hx, hx2⟩)
    have HX := Lib.hid (And.intro hx hx2)
    clear hx hx2 HR
    have HL := Lib.hid (fun W => tr_less x 0 HX.out.1 (by decide) W)
    unfold nuV at HL
    rw [show ((0 : Nat) : Int) = 0 from rfl] at HL
    go_wp2_with fail
    refine (HL.out _).mono ?_
    rintro e w' ⟨u, du, rfl, rfl, hu, y, hy1, hy2, hcn⟩
    have HU := Lib.hid (And.intro hu (And.intro hy1 (And.intro hy2 hcn)))
    clear hu hy1 hy2 hcn HL
    have HS := Lib.hid (fun W => nm_sub [0, 0, 0, 0] u zero4.1 HU.out.1 W)
    unfold nuV at HS
    change Hid (∀ W, Calls Tryz.prog 150 #[.agg #[.int .u64 0, .int .u64 0, .int .u64 0, .int .u64 0], _] W _) at HS
    go_wp2_with fail
    refine (HS.out _).mono ?_
    rintro e w' ⟨r, dr, rfl, rfl, hr, c, hc1, hr2⟩
    rw [b256_pow] at hr2
    have HE := Lib.hid (cos_cell (by omega) (by omega) HX.out.2 HU.out.1 hr HU.out.2.1 HU.out.2.2.1 HU.out.2.2.2 zero4.2 hc1 hr2)
    have HB := Lib.hid (octC_lt (r := m) (by omega) (by omega))
    clear hr hr2 HS hc1
    go_wp2_with fail
    rw [sin_wrap HE.out HB.out]
    exact bodyPost_ret (v := .tuple #[.int .i64 (octC m : Int), .bool false]) (by simp [results, Tryz.results116, go_sem]) rfl ⟨rfl, lay_ex _ _⟩
attribute [irreducible] sinQ
end Go.Proofs.YtkhhdpndcidmgaaGreat
/- Sines and cosines over arcs: what the program returns. -/
namespace Go.Proofs.YtkhhdpndcidmgaaGreat
set_option maxHeartbeats 1000000
set_option maxRecDepth 100000
open Go.RowKit

theorem sinQ_le {n : Nat} (h : n ≤ 5400000) : sinQ n ≤ 1073741824 := by
  unfold sinQ
  split
  · omega
  · split
    · omega
    · split
      · omega
      · split
        · exact Nat.le_of_lt (octS_lt (by omega) (by omega) (by omega))
        · exact Nat.le_of_lt (octC_lt (by omega) (by omega))
def foldT (n : Int) : Nat := if 10800000 < n % 21600000 then (if 16200000 < n % 21600000 then (21600000 - n % 21600000).toNat else (n % 21600000 - 10800000).toNat) else (if 5400000 < n % 21600000 then (10800000 - n % 21600000).toNat else (n % 21600000).toNat)
def souB (n : Int) : Bool := decide (10800000 < n % 21600000)
def oneQ (n : Nat) : Int := if exaQ n then 0 else 1
def bLo (n : Int) : Int := if souB n then -((sinQ (foldT n) : Int) + oneQ (foldT n)) else (sinQ (foldT n) : Int)
def bHi (n : Int) : Int := if souB n then -(sinQ (foldT n) : Int) else (sinQ (foldT n) : Int) + oneQ (foldT n)
theorem foldT_le (n : Int) : foldT n ≤ 5400000 := by
  unfold foldT
  split <;> split <;> omega
theorem oneQ_in (n : Nat) : 0 ≤ oneQ n ∧ oneQ n ≤ 1 := by unfold oneQ; split <;> omega
theorem tmod_turn (n : Int) : n.tmod 21600000 = n % 21600000 ∨ (n.tmod 21600000 < 0 ∧ n.tmod 21600000 + 21600000 = n % 21600000) := by
  by_cases h : 0 ≤ n
  · left; exact Int.tmod_eq_emod_of_nonneg h
  · have h1 : n.tmod 21600000 = -((-n) % 21600000) := by
      have := Int.neg_tmod (a := -n) (b := 21600000)
      rw [Int.neg_neg] at this
      rw [this, Int.tmod_eq_emod_of_nonneg (by omega)]
    rw [h1]
    omega
theorem tg_turned (n : Int) (w : World) :
    Calls Tryz.prog 115 #[.int .i64 n] w fun e w' => e = .returned (.int .i64 (n % 21600000)) ∧ w' = w := by
  obtain ⟨r, hr⟩ : ∃ r, n.tmod 21600000 = r := ⟨_, rfl⟩
  obtain ⟨q, hq⟩ : ∃ q, n % 21600000 = q := ⟨_, rfl⟩
  have hc := tmod_turn n
  rw [hr, hq] at hc
  have hq2 : 0 ≤ q ∧ q < 21600000 := by omega
  rw [hq]
  have k1 : IntKind.i64.wrap r = r := IntWalk.i64_in _ (by omega)
  rcases hc with hc | ⟨hc, hc2⟩
  · subst hc
    have h0 : ¬ r < 0 := by omega
    go_enter Tryz.func115, Tryz.ntmps115
    go_wp2_with fail
    go_ret
    exact ⟨rfl, rfl⟩
  · have k2 : IntKind.i64.wrap q = q := IntWalk.i64_in _ (by omega)
    go_enter Tryz.func115, Tryz.ntmps115
    go_wp2_with fail
    go_ret
    exact ⟨rfl, rfl⟩
theorem tg_bounds (n : Int) (w : World) :
    Calls Tryz.prog 77 #[.int .i64 n] w fun e w' => e = .returned (.tuple #[.int .i64 (bLo n), .int .i64 (bHi n)]) ∧ ∃ d, w' = bw w d := by
  refine lay_start ?_
  have HT := Lib.hid (fun W => tg_turned n W)
  have hf := foldT_le n
  have hs := sinQ_le hf
  have HS := Lib.hid (fun W => tg_sine (foldT n) hf W)
  have h1 : bLo n = if souB n then -((sinQ (foldT n) : Int) + oneQ (foldT n)) else (sinQ (foldT n) : Int) := rfl
  have h2 : bHi n = if souB n then -(sinQ (foldT n) : Int) else (sinQ (foldT n) : Int) + oneQ (foldT n) := rfl
  have h3 : foldT n = if 10800000 < n % 21600000 then (if 16200000 < n % 21600000 then (21600000 - n % 21600000).toNat else (n % 21600000 - 10800000).toNat) else (if 5400000 < n % 21600000 then (10800000 - n % 21600000).toNat else (n % 21600000).toNat) := rfl
  have h4 : souB n = decide (10800000 < n % 21600000) := rfl
  have h5 : oneQ (foldT n) = if exaQ (foldT n) then 0 else 1 := rfl
  obtain ⟨q, hq⟩ : ∃ q, n % 21600000 = q := ⟨_, rfl⟩
  have hq2 : 0 ≤ q ∧ q < 21600000 := by omega
  rw [hq] at HT h3 h4
  clear hq
  generalize foldT n = f at *
  generalize sinQ f = s at *
  generalize exaQ f = x at *
  rw [h1, h2]
  clear h1 h2
  rw [h4]
  have ks : IntKind.i64.wrap (s : Int) = (s : Int) := IntWalk.i64_in _ (by omega)
  obtain ⟨s1, hs1⟩ : ∃ s1 : Int, (s : Int) + 1 = s1 := ⟨_, rfl⟩
  have ks1 : IntKind.i64.wrap s1 = s1 := IntWalk.i64_in _ (by omega)
  obtain ⟨m1, hm1⟩ : ∃ m1 : Int, -s1 = m1 := ⟨_, rfl⟩
  have km1 : IntKind.i64.wrap m1 = m1 := IntWalk.i64_in _ (by omega)
  obtain ⟨m0, hm0⟩ : ∃ m0 : Int, -(s : Int) = m0 := ⟨_, rfl⟩
  have km0 : IntKind.i64.wrap m0 = m0 := IntWalk.i64_in _ (by omega)
  by_cases c1 : 10800000 < q
  · have e1 : decide (10800000 < q) = true := decide_eq_true c1
    obtain ⟨p, hp⟩ : ∃ p : Int, q - 10800000 = p := ⟨_, rfl⟩
    have kp : IntKind.i64.wrap p = p := IntWalk.i64_in _ (by omega)
    rw [if_pos c1] at h3
    by_cases c2 : 5400000 < p
    · obtain ⟨g, hg⟩ : ∃ g : Int, 10800000 - p = g := ⟨_, rfl⟩
      have kg : IntKind.i64.wrap g = g := IntWalk.i64_in _ (by omega)
      have hfg : (f : Int) = g := by rw [h3, if_pos (by omega)]; omega
      rw [hfg] at HS
      clear h3 hf
      cases x
      · rw [e1, show oneQ f = 1 from h5]
        clear h5 h4
        first | simp only [if_true] | simp only [Bool.false_eq_true, if_false]
        first | rw [hs1] | skip
        first | rw [hm1] | skip
        first | rw [hm0] | skip
        go_enter Tryz.func77, Tryz.ntmps77
        go_wp2_with (first | (go_at_call 115; refine (HT.out _).mono ?_; rintro e w' ⟨rfl, hw⟩; rw [hw]) | (go_at_call 116; refine (HS.out _).mono ?_; rintro e w' ⟨rfl, d, rfl⟩))
        refine bodyPost_ret (v := .tuple #[.int .i64 m1, .int .i64 m0]) (by simp [results, Tryz.results77, go_sem]) rfl ⟨?_, lay_ex _ _⟩
        first | rfl | (simp; omega) | simp
      · rw [e1, show oneQ f = 0 from h5]
        clear h5 h4
        first | simp only [if_true] | simp only [Bool.false_eq_true, if_false]
        first | rw [hs1] | skip
        first | rw [hm1] | skip
        first | rw [hm0] | skip
        go_enter Tryz.func77, Tryz.ntmps77
        go_wp2_with (first | (go_at_call 115; refine (HT.out _).mono ?_; rintro e w' ⟨rfl, hw⟩; rw [hw]) | (go_at_call 116; refine (HS.out _).mono ?_; rintro e w' ⟨rfl, d, rfl⟩))
        refine bodyPost_ret (v := .tuple #[.int .i64 m0, .int .i64 m0]) (by simp [results, Tryz.results77, go_sem]) rfl ⟨?_, lay_ex _ _⟩
        first | rfl | (simp; omega) | simp
    · have hfg : (f : Int) = p := by rw [h3, if_neg (by omega)]; omega
      rw [hfg] at HS
      clear h3 hf
      cases x
      · rw [e1, show oneQ f = 1 from h5]
        clear h5 h4
        first | simp only [if_true] | simp only [Bool.false_eq_true, if_false]
        first | rw [hs1] | skip
        first | rw [hm1] | skip
        first | rw [hm0] | skip
        go_enter Tryz.func77, Tryz.ntmps77
        go_wp2_with (first | (go_at_call 115; refine (HT.out _).mono ?_; rintro e w' ⟨rfl, hw⟩; rw [hw]) | (go_at_call 116; refine (HS.out _).mono ?_; rintro e w' ⟨rfl, d, rfl⟩))
        refine bodyPost_ret (v := .tuple #[.int .i64 m1, .int .i64 m0]) (by simp [results, Tryz.results77, go_sem]) rfl ⟨?_, lay_ex _ _⟩
        first | rfl | (simp; omega) | simp
      · rw [e1, show oneQ f = 0 from h5]
        clear h5 h4
        first | simp only [if_true] | simp only [Bool.false_eq_true, if_false]
        first | rw [hs1] | skip
        first | rw [hm1] | skip
        first | rw [hm0] | skip
        go_enter Tryz.func77, Tryz.ntmps77
        go_wp2_with (first | (go_at_call 115; refine (HT.out _).mono ?_; rintro e w' ⟨rfl, hw⟩; rw [hw]) | (go_at_call 116; refine (HS.out _).mono ?_; rintro e w' ⟨rfl, d, rfl⟩))
        refine bodyPost_ret (v := .tuple #[.int .i64 m0, .int .i64 m0]) (by simp [results, Tryz.results77, go_sem]) rfl ⟨?_, lay_ex _ _⟩
        first | rfl | (simp; omega) | simp
  · have e1 : decide (10800000 < q) = false := decide_eq_false c1
    rw [if_neg c1] at h3
    by_cases c2 : 5400000 < q
    · obtain ⟨g, hg⟩ : ∃ g : Int, 10800000 - q = g := ⟨_, rfl⟩
      have kg : IntKind.i64.wrap g = g := IntWalk.i64_in _ (by omega)
      have hfg : (f : Int) = g := by rw [h3, if_pos (by omega)]; omega
      rw [hfg] at HS
      clear h3 hf
      cases x
      · rw [e1, show oneQ f = 1 from h5]
        clear h5 h4
        first | simp only [if_true] | simp only [Bool.false_eq_true, if_false]
        first | rw [hs1] | skip
        first | rw [hm1] | skip
        first | rw [hm0] | skip
        go_enter Tryz.func77, Tryz.ntmps77
        go_wp2_with (first | (go_at_call 115; refine (HT.out _).mono ?_; rintro e w' ⟨rfl, hw⟩; rw [hw]) | (go_at_call 116; refine (HS.out _).mono ?_; rintro e w' ⟨rfl, d, rfl⟩))
        refine bodyPost_ret (v := .tuple #[.int .i64 (s : Int), .int .i64 s1]) (by simp [results, Tryz.results77, go_sem]) rfl ⟨?_, lay_ex _ _⟩
        first | rfl | (simp; omega) | simp
      · rw [e1, show oneQ f = 0 from h5]
        clear h5 h4
        first | simp only [if_true] | simp only [Bool.false_eq_true, if_false]
        first | rw [hs1] | skip
        first | rw [hm1] | skip
        first | rw [hm0] | skip
        go_enter Tryz.func77, Tryz.ntmps77
        go_wp2_with (first | (go_at_call 115; refine (HT.out _).mono ?_; rintro e w' ⟨rfl, hw⟩; rw [hw]) | (go_at_call 116; refine (HS.out _).mono ?_; rintro e w' ⟨rfl, d, rfl⟩))
        refine bodyPost_ret (v := .tuple #[.int .i64 (s : Int), .int .i64 (s : Int)]) (by simp [results, Tryz.results77, go_sem]) rfl ⟨?_, lay_ex _ _⟩
        first | rfl | (simp; omega) | simp
    · have hfg : (f : Int) = q := by rw [h3, if_neg (by omega)]; omega
      rw [hfg] at HS
      clear h3 hf
      cases x
      · rw [e1, show oneQ f = 1 from h5]
        clear h5 h4
        first | simp only [if_true] | simp only [Bool.false_eq_true, if_false]
        first | rw [hs1] | skip
        first | rw [hm1] | skip
        first | rw [hm0] | skip
        go_enter Tryz.func77, Tryz.ntmps77
        go_wp2_with (first | (go_at_call 115; refine (HT.out _).mono ?_; rintro e w' ⟨rfl, hw⟩; rw [hw]) | (go_at_call 116; refine (HS.out _).mono ?_; rintro e w' ⟨rfl, d, rfl⟩))
        refine bodyPost_ret (v := .tuple #[.int .i64 (s : Int), .int .i64 s1]) (by simp [results, Tryz.results77, go_sem]) rfl ⟨?_, lay_ex _ _⟩
        first | rfl | (simp; omega) | simp
      · rw [e1, show oneQ f = 0 from h5]
        clear h5 h4
        first | simp only [if_true] | simp only [Bool.false_eq_true, if_false]
        first | rw [hs1] | skip
        first | rw [hm1] | skip
        first | rw [hm0] | skip
        go_enter Tryz.func77, Tryz.ntmps77
        go_wp2_with (first | (go_at_call 115; refine (HT.out _).mono ?_; rintro e w' ⟨rfl, hw⟩; rw [hw]) | (go_at_call 116; refine (HS.out _).mono ?_; rintro e w' ⟨rfl, d, rfl⟩))
        refine bodyPost_ret (v := .tuple #[.int .i64 (s : Int), .int .i64 (s : Int)]) (by simp [results, Tryz.results77, go_sem]) rfl ⟨?_, lay_ex _ _⟩
        first | rfl | (simp; omega) | simp
def metB (lo hi n : Int) : Bool := decide ((n - lo) % 21600000 ≤ hi - lo)
theorem tg_meets (lo hi n : Int) (h1 : -2199023255552 ≤ lo) (h2 : lo ≤ hi) (h3 : hi ≤ 2199023255552) (h4 : 0 ≤ n) (h5 : n ≤ 21600000) (w : World) :
    Calls Tryz.prog 78 #[(.agg #[.int .i64 (lo), .int .i64 (hi)]), .int .i64 n] w fun e w' => e = .returned (.bool (metB lo hi n)) ∧ ∃ d, w' = bw w d := by
  refine lay_start ?_
  obtain ⟨D, hD⟩ : ∃ D : Int, n - lo = D := ⟨_, rfl⟩
  obtain ⟨E, hE⟩ : ∃ E : Int, hi - lo = E := ⟨_, rfl⟩
  have HT := Lib.hid (fun W => tg_turned D W)
  obtain ⟨q, hq⟩ : ∃ q, D % 21600000 = q := ⟨_, rfl⟩
  rw [show metB lo hi n = decide (q ≤ E) by unfold metB; rw [hD, hE, hq]]
  rw [hq] at HT
  have kD : IntKind.i64.wrap D = D := IntWalk.i64_in _ (by omega)
  have kE : IntKind.i64.wrap E = E := IntWalk.i64_in _ (by omega)
  clear hq
  go_enter Tryz.func78, Tryz.ntmps78
  go_wp2_with fail
  refine region_bw (by kernel_rfl) (by kernel_rfl) ?_
  repeat (go_big_quiet_step ((first | (go_at_call 115; exact bqs (HT.out _) ⟨_, rfl⟩))))
  refine wpQuiet_nil ?_
  rintro w' ⟨d, rfl⟩
  rw [lay_bw]
  go_wp2_with fail
  go_ret
  exact ⟨rfl, lay_ex _ _⟩
theorem tg_further (lo hi : Int) (h1 : -2199023255552 ≤ lo) (h2 : lo ≤ hi) (h3 : hi ≤ 2199023255552) (w : World) :
    Calls Tryz.prog 42 #[(.agg #[.int .i64 (lo), .int .i64 (hi)])] w fun e w' => e = .returned (.agg #[.int .i64 (lo + 5400000), .int .i64 (hi + 5400000)]) ∧ ∃ d, w' = bw w d := by
  refine lay_start ?_
  have k1 : IntKind.i64.wrap (lo + 5400000) = lo + 5400000 := IntWalk.i64_in _ (by omega)
  have k2 : IntKind.i64.wrap (hi + 5400000) = hi + 5400000 := IntWalk.i64_in _ (by omega)
  go_enter Tryz.func42, Tryz.ntmps42
  go_wp2_with fail
  exact bodyPost_ret (v := (.agg #[.int .i64 (lo + 5400000), .int .i64 (hi + 5400000)])) (by simp [results, Tryz.results42, go_sem]) rfl ⟨rfl, lay_ex _ _⟩
theorem tg_valid (lo hi : Int) (w : World) :
    Calls Tryz.prog 40 #[(.agg #[.int .i64 (lo), .int .i64 (hi)])] w fun e w' => e = .returned (.bool (validB lo hi)) ∧ ∃ d, w' = bw w d := by
  refine lay_start ?_
  go_enter Tryz.func40, Tryz.ntmps40
  go_wp2
  all_goals go_ret
  all_goals exact ⟨ret_bool (by rw [Bool.eq_iff_iff]; simp [validB]; omega), lay_ex _ _⟩
def encL (lo hi : Int) : Int := if metB lo hi 16200000 then -1073741824 else mn (bLo lo) (bLo hi)
def encH (lo hi : Int) : Int := if metB lo hi 5400000 then 1073741824 else mx (bHi lo) (bHi hi)
theorem tg_enclosure (lo hi : Int) (h1 : -2199023255552 ≤ lo) (h2 : lo ≤ hi) (h3 : hi ≤ 2199023255552) (w : World) :
    Calls Tryz.prog 41 #[(.agg #[.int .i64 (lo), .int .i64 (hi)])] w fun e w' => e = .returned (.agg #[.int .i64 (encL lo hi), .int .i64 (encH lo hi)]) ∧ ∃ d, w' = bw w d := by
  refine lay_start ?_
  have HB1 := Lib.hid (fun W => tg_bounds lo W)
  have HB2 := Lib.hid (fun W => tg_bounds hi W)
  have HM1 := Lib.hid (fun W => tg_meets lo hi 5400000 h1 h2 h3 (by decide) (by decide) W)
  have HM2 := Lib.hid (fun W => tg_meets lo hi 16200000 h1 h2 h3 (by decide) (by decide) W)
  have e1 : encL lo hi = if metB lo hi 16200000 then -1073741824 else mn (bLo lo) (bLo hi) := rfl
  have e2 : encH lo hi = if metB lo hi 5400000 then 1073741824 else mx (bHi lo) (bHi hi) := rfl
  rw [e1, e2]
  clear e1 e2
  generalize bLo lo = p at *
  generalize bLo hi = q at *
  generalize bHi lo = r at *
  generalize bHi hi = s at *
  cases hm1 : metB lo hi 5400000 <;> cases hm2 : metB lo hi 16200000
  all_goals
    rw [hm1] at HM1
    rw [hm2] at HM2
    clear hm1 hm2
    go_enter Tryz.func41, Tryz.ntmps41
    go_wp2_with (first | (go_at_call 77; first | (with_reducible refine (HB1.out _).mono ?_; rintro e w' ⟨rfl, d, rfl⟩) | (with_reducible refine (HB2.out _).mono ?_; rintro e w' ⟨rfl, d', rfl⟩)) | (go_at_call 78; first | (with_reducible refine (HM1.out _).mono ?_; rintro e w' ⟨rfl, d, rfl⟩) | (with_reducible refine (HM2.out _).mono ?_; rintro e w' ⟨rfl, d', rfl⟩)))
  · exact bodyPost_ret (v := (.agg #[.int .i64 (mn p q), .int .i64 (mx r s)])) (by simp [results, Tryz.results41, go_sem]) rfl ⟨rfl, lay_ex _ _⟩
  · exact bodyPost_ret (v := (.agg #[.int .i64 (-1073741824), .int .i64 (mx r s)])) (by simp [results, Tryz.results41, go_sem]) rfl ⟨rfl, lay_ex _ _⟩
  · exact bodyPost_ret (v := (.agg #[.int .i64 (mn p q), .int .i64 (1073741824)])) (by simp [results, Tryz.results41, go_sem]) rfl ⟨rfl, lay_ex _ _⟩
  · exact bodyPost_ret (v := (.agg #[.int .i64 (-1073741824), .int .i64 (1073741824)])) (by simp [results, Tryz.results41, go_sem]) rfl ⟨rfl, lay_ex _ _⟩
attribute [irreducible] encL encH bLo bHi
theorem tg_Sin (lo hi : Int) (hv : validB lo hi = true) (w : World) :
    Calls Tryz.prog 13 #[(.agg #[.int .i64 (lo), .int .i64 (hi)])] w fun e w' => e = .returned (.tuple #[(.agg #[.int .i64 (encL lo hi), .int .i64 (encH lo hi)]), .int .i64 0]) ∧ ∃ d, w' = bw w d := by
  refine lay_start ?_
  have h := validB_iff.1 hv
  have HV := Lib.hid (fun W => tg_valid lo hi W)
  rw [hv] at HV
  have HE := Lib.hid (fun W => tg_enclosure lo hi (by omega) h.1 (by omega) W)
  clear h hv
  generalize encL lo hi = p at *
  generalize encH lo hi = q at *
  go_enter Tryz.func13, Tryz.ntmps13
  go_wp2_with (first | (go_at_call 40; refine (HV.out _).mono ?_; rintro e w' ⟨rfl, d, rfl⟩) | (go_at_call 41; refine (HE.out _).mono ?_; rintro e w' ⟨rfl, d, rfl⟩))
  exact bodyPost_ret (v := .tuple #[(.agg #[.int .i64 (p), .int .i64 (q)]), .int .i64 0]) (by simp [results, Tryz.results13, go_sem]) rfl ⟨rfl, lay_ex _ _⟩
theorem tg_Cos (lo hi : Int) (hv : validB lo hi = true) (w : World) :
    Calls Tryz.prog 14 #[(.agg #[.int .i64 (lo), .int .i64 (hi)])] w fun e w' => e = .returned (.tuple #[(.agg #[.int .i64 (encL (lo + 5400000) (hi + 5400000)), .int .i64 (encH (lo + 5400000) (hi + 5400000))]), .int .i64 0]) ∧ ∃ d, w' = bw w d := by
  refine lay_start ?_
  have h := validB_iff.1 hv
  have HV := Lib.hid (fun W => tg_valid lo hi W)
  rw [hv] at HV
  have HF := Lib.hid (fun W => tg_further lo hi (by omega) h.1 (by omega) W)
  have HE := Lib.hid (fun W => tg_enclosure (lo + 5400000) (hi + 5400000) (by omega) (by omega) (by omega) W)
  clear h hv
  generalize encL (lo + 5400000) (hi + 5400000) = p at *
  generalize encH (lo + 5400000) (hi + 5400000) = q at *
  go_enter Tryz.func14, Tryz.ntmps14
  go_wp2_with (first | (go_at_call 40; refine (HV.out _).mono ?_; rintro e w' ⟨rfl, d, rfl⟩) | (go_at_call 42; refine (HF.out _).mono ?_; rintro e w' ⟨rfl, d, rfl⟩) | (go_at_call 41; refine (HE.out _).mono ?_; rintro e w' ⟨rfl, d, rfl⟩))
  exact bodyPost_ret (v := .tuple #[(.agg #[.int .i64 (p), .int .i64 (q)]), .int .i64 0]) (by simp [results, Tryz.results14, go_sem]) rfl ⟨rfl, lay_ex _ _⟩
end Go.Proofs.YtkhhdpndcidmgaaGreat
