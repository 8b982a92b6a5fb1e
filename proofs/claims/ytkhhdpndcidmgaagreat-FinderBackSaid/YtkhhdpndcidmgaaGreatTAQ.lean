/- Contracts and plain laws, several texts in one: Nm5; TgS -/
import Derived.Test.YtkhhdpndcidmgaaGreatProg
import Derived.WalkKit
import Derived.WalkSpells
import Derived.WalkLawsBesides
import Derived.Lib.Hide
import Derived.BigQuiet
import Derived.Test.YtkhhdpndcidmgaaGreatTAD
import Derived.Test.YtkhhdpndcidmgaaGreatTAE
import Derived.Test.YtkhhdpndcidmgaaGreatTAF
import Derived.Test.YtkhhdpndcidmgaaGreatTAI
import Derived.Test.YtkhhdpndcidmgaaGreatTAN
/- What is missing from 1: the sums in nested form. -/
namespace Go.Proofs.YtkhhdpndcidmgaaGreat
open Go.RowKit

theorem b256_pow : 18446744073709551616 ^ 4 = b256 := by decide +kernel
theorem chain_next {y d m q u p r c : Nat} (hc : ChainN b256 y (d + 2) m u) (hu : u < b256) (hq : q = y / (d * (d + 1))) (h1 : p * b256 ≤ q * u) (h2 : q * u ≤ (p + 2) * b256) (hr : r < b256) (h3 : r + p = q + c * b256) (hc1 : c ≤ 1) : ChainN b256 y d (m + 1) r := by
  refine ⟨u, p, hc, by rw [← hq]; exact h1, by rw [← hq]; exact h2, ?_⟩
  have hp : p ≤ q := by
    have h4 : p * b256 ≤ q * b256 := Nat.le_trans h1 (Nat.mul_le_mul_left q (Nat.le_of_lt hu))
    exact Nat.le_of_mul_le_mul_right h4 b256_pos
  rw [← hq]
  have hc2 : c = 0 ∨ c = 1 := by omega
  rcases hc2 with rfl | rfl
  · omega
  · omega
set_option maxHeartbeats 4000000 in
set_option maxRecDepth 100000 in
theorem tr_less (x : List Nat) (odd : Nat) (hx : Wd 4 x) (ho : odd ≤ 1) (w : World) :
    Calls Tryz.prog 152 #[nuV x, .int .u64 (odd : Int)] w fun e w' => ∃ r d, e = .returned (nuV r) ∧ w' = bw w d ∧ Wd 4 r ∧ ∃ y, y * b256 ≤ val4 x * val4 x ∧ val4 x * val4 x ≤ (y + 2) * b256 ∧ ChainN b256 y (1 + odd) 34 (val4 r) := by
  refine lay_start ?_
  have HMx := Lib.hid (fun W => nm_mul x x hx hx W)
  unfold nuV at HMx ⊢
  go_enter Tryz.func152, Tryz.ntmps152
  go_wp2_with (go_at_call 151; refine (HMx.out _).mono ?_; rintro e w' ⟨y, d1, rfl, rfl, hy, hy1, hy2⟩)
  rw [b256_pow] at hy1 hy2
  have HY := Lib.hid (And.intro hy (And.intro hy1 hy2))
  clear hy hy1 hy2 HMx
  go_loopw [7, 8] (fun v7 _ wr => ∃ (k : Nat) (u : List Nat) (dd : Ext), k ≤ 34 ∧ v7 = .int .u64 (k : Int) ∧ wr = lay w [.inr dd, .inl (.cells #[.int .u64 (nt u 0 : Int), .int .u64 (nt u 1 : Int), .int .u64 (nt u 2 : Int), .int .u64 (nt u 3 : Int)] 175 (0, 0)), .inl (.cells #[.int .u64 (nt y 0 : Int), .int .u64 (nt y 1 : Int), .int .u64 (nt y 2 : Int), .int .u64 (nt y 3 : Int)] 175 (0, 0)), .inr d1, .inl (.cells #[.int .u64 0, .int .u64 0, .int .u64 0, .int .u64 0] 175 (0, 0)), .inl (.cells #[.int .u64 (nt x 0 : Int), .int .u64 (nt x 1 : Int), .int .u64 (nt x 2 : Int), .int .u64 (nt x 3 : Int)] 175 (0, 0))] ∧ Wd 4 u ∧ ChainN b256 (val4 y) (2 * k + 1 + odd) (34 - k) (val4 u)) (fun v7 _ _ => (intOf v7).toNat)
  case atStart => exact ⟨34, [0, 0, 0, 0], noExt _, Nat.le_refl _, rfl, (bw_noExt _).symm, ⟨rfl, fun i => by
    unfold nt
    match i with
    | 0 => decide
    | 1 => decide
    | 2 => decide
    | 3 => decide
    | i + 4 => simp⟩, by show val4 _ = 0; decide +kernel⟩
  case round =>
    obtain ⟨k, u, dd, hk, rfl, rfl, hu, hC⟩ := hrel
    have HC := Lib.hid (And.intro hu hC)
    clear hu hC
    by_cases hk0 : k = 0
    · subst hk0
      go_wp2_with fail
      obtain ⟨dz, ez⟩ := lay_all w [.inr dd, .inl (.cells #[.int .u64 (nt u 0 : Int), .int .u64 (nt u 1 : Int), .int .u64 (nt u 2 : Int), .int .u64 (nt u 3 : Int)] 175 (0, 0)), .inl (.cells #[.int .u64 (nt y 0 : Int), .int .u64 (nt y 1 : Int), .int .u64 (nt y 2 : Int), .int .u64 (nt y 3 : Int)] 175 (0, 0)), .inr d1, .inl (.cells #[.int .u64 (nt u 0 : Int), .int .u64 (nt u 1 : Int), .int .u64 (nt u 2 : Int), .int .u64 (nt u 3 : Int)] 175 (0, 0)), .inl (.cells #[.int .u64 (nt x 0 : Int), .int .u64 (nt x 1 : Int), .int .u64 (nt x 2 : Int), .int .u64 (nt x 3 : Int)] 175 (0, 0))]
      exact bodyPost_ret (v := .agg #[.int .u64 (nt u 0 : Int), .int .u64 (nt u 1 : Int), .int .u64 (nt u 2 : Int), .int .u64 (nt u 3 : Int)]) (by simp [results, Tryz.results152, go_sem]) rfl ⟨u, dz, rfl, ez, HC.out.1, val4 y, HY.out.2.1, HY.out.2.2, by have := HC.out.2; rwa [show 2 * 0 + 1 + odd = 1 + odd by omega] at this⟩
    · obtain ⟨j, hj⟩ : ∃ j, k = j + 1 := ⟨k - 1, by omega⟩
      obtain ⟨DV, hDV⟩ : ∃ DV : Nat, (2 * j + 1 + odd) * (2 * j + 1 + odd + 1) = DV := ⟨_, rfl⟩
      have hDVb : 2 ≤ DV ∧ DV ≤ 5000 := by
        rw [← hDV]
        constructor
        · exact dd_ge (by omega)
        · exact Nat.le_trans (Nat.mul_le_mul (show 2 * j + 1 + odd ≤ 68 by omega) (show 2 * j + 1 + odd + 1 ≤ 69 by omega)) (by decide)
      have hk1 : (0 : Int) < (k : Int) := by omega
      have hkj : (k : Int) - 1 = (j : Int) := by omega
      have kj : IntKind.u64.wrap (j : Int) = (j : Int) := IntWalk.u64_in _ (by omega)
      obtain ⟨A, hA⟩ : ∃ A : Int, 2 * (k : Int) = A := ⟨_, rfl⟩
      obtain ⟨A1, hA1⟩ : ∃ A1 : Int, A - 1 = A1 := ⟨_, rfl⟩
      obtain ⟨A2, hA2⟩ : ∃ A2 : Int, A1 + (odd : Int) = A2 := ⟨_, rfl⟩
      obtain ⟨A3, hA3⟩ : ∃ A3 : Int, A + (odd : Int) = A3 := ⟨_, rfl⟩
      have hA4 : A2 * A3 = (DV : Int) := by
        rw [← hDV, show A2 = ((2 * j + 1 + odd : Nat) : Int) by omega, show A3 = ((2 * j + 1 + odd + 1 : Nat) : Int) by omega]
        exact (Int.natCast_mul _ _).symm
      have kA : IntKind.u64.wrap A = A := IntWalk.u64_in _ (by omega)
      have kA1 : IntKind.u64.wrap A1 = A1 := IntWalk.u64_in _ (by omega)
      have kA2 : IntKind.u64.wrap A2 = A2 := IntWalk.u64_in _ (by omega)
      have kA3 : IntKind.u64.wrap A3 = A3 := IntWalk.u64_in _ (by omega)
      have kDV : IntKind.u64.wrap (DV : Int) = (DV : Int) := IntWalk.u64_in _ (by omega)
      have HD := Lib.hid (fun W => nm_div y 0 DV HY.out.1 (by omega) (by omega) W)
      unfold nuV at HD
      rw [show ((0 : Nat) : Int) = 0 from rfl] at HD
      have HJ := Lib.hid (And.intro hj hDV)
      clear hj hDV
      go_wp2_with (go_at_call 182; refine (HD.out _).mono ?_; rintro e w' ⟨q, dq, rfl, rfl, hq, hq2⟩)
      have HQ := Lib.hid (And.intro hq hq2)
      clear hq hq2 HD
      have HM := Lib.hid (fun W => nm_mul q u HQ.out.1 HC.out.1 W)
      unfold nuV at HM
      refine region_mixS 5 [(0, 0), (1, 0), (2, 0), (3, 1), (4, 1), (5, 3)] (by kernel_rfl) (by kernel_rfl) (by kernel_rfl) rfl ?_
      repeat (first | (refine wpMS_pure rfl (fun K hK => ?_); go_simp; refine hK _ ?_; clear hK K) | (refine wpMS_quiet rfl (fun K hK => ?_); go_simp; first | (refine hK _ ?_; clear hK K) | (apply Exists.intro; refine ⟨fun _ => ?_, hK _ ?_⟩; (first | fail); clear hK K)))
      refine wpMS_special rfl (fun K hK e1 => ?_)
      rw [lay_bw]
      go_simp
      refine (HM.out _).mono ?_
      rintro e w' ⟨p, dp, rfl, rfl, hp, hp1, hp2⟩
      rw [b256_pow] at hp1 hp2
      have HP := Lib.hid (And.intro hp (And.intro hp1 hp2))
      clear hp hp1 hp2 HM
      refine ⟨_, rfl, hK _ _ (lay_in w [.inr dp, .inr e1] _) ?_⟩
      clear hK K
      have HS := Lib.hid (fun W => nm_sub q p HQ.out.1 HP.out.1 W)
      unfold nuV at HS
      refine wpMS_special rfl (fun K hK e2 => ?_)
      rw [lay_bw, lay_bw]
      go_simp
      refine (HS.out _).mono ?_
      rintro e w' ⟨r, dr, rfl, rfl, hr, c, hc1, hr2⟩
      rw [b256_pow] at hr2
      have HR := Lib.hid (And.intro hr (And.intro hc1 hr2))
      clear hr hr2 HS hc1
      refine ⟨_, rfl, hK _ _ (lay_in w [.inr dr, .inr e2, .inr dp, .inr e1] _) ?_⟩
      clear hK K
      refine wpMS_store rfl (fun K hK e3 => ?_)
      rw [lay_bw, lay_bw]
      go_simp
      refine hK _ _ ?_
      clear hK K
      refine wpMS_nil (fun e4 => ?_)
      rw [lay_bw]
      obtain ⟨d9, e9⟩ := lay_fold w [.inr e4, .inr e3, .inr dr, .inr e2, .inr dp, .inr e1, .inl (.cells #[.int .u64 (nt q 0 : Int), .int .u64 (nt q 1 : Int), .int .u64 (nt q 2 : Int), .int .u64 (nt q 3 : Int)] 175 (0, 0)), .inr dq, .inr dd] [.inl (.cells #[.int .u64 (nt r 0 : Int), .int .u64 (nt r 1 : Int), .int .u64 (nt r 2 : Int), .int .u64 (nt r 3 : Int)] 175 (0, 0)), .inl (.cells #[.int .u64 (nt y 0 : Int), .int .u64 (nt y 1 : Int), .int .u64 (nt y 2 : Int), .int .u64 (nt y 3 : Int)] 175 (0, 0)), .inr d1, .inl (.cells #[.int .u64 0, .int .u64 0, .int .u64 0, .int .u64 0] 175 (0, 0)), .inl (.cells #[.int .u64 (nt x 0 : Int), .int .u64 (nt x 1 : Int), .int .u64 (nt x 2 : Int), .int .u64 (nt x 3 : Int)] 175 (0, 0))]
      change lay w [.inr e4, .inr e3, .inr dr, .inr e2, .inr dp, .inr e1, .inl (.cells #[.int .u64 (nt q 0 : Int), .int .u64 (nt q 1 : Int), .int .u64 (nt q 2 : Int), .int .u64 (nt q 3 : Int)] 175 (0, 0)), .inr dq, .inr dd, .inl (.cells #[.int .u64 (nt r 0 : Int), .int .u64 (nt r 1 : Int), .int .u64 (nt r 2 : Int), .int .u64 (nt r 3 : Int)] 175 (0, 0)), .inl (.cells #[.int .u64 (nt y 0 : Int), .int .u64 (nt y 1 : Int), .int .u64 (nt y 2 : Int), .int .u64 (nt y 3 : Int)] 175 (0, 0)), .inr d1, .inl (.cells #[.int .u64 0, .int .u64 0, .int .u64 0, .int .u64 0] 175 (0, 0)), .inl (.cells #[.int .u64 (nt x 0 : Int), .int .u64 (nt x 1 : Int), .int .u64 (nt x 2 : Int), .int .u64 (nt x 3 : Int)] 175 (0, 0))] = _ at e9
      rw [e9]
      clear e9
      have HF : Hid (Wd 4 r ∧ ChainN b256 (val4 y) (2 * j + 1 + odd) (34 - j) (val4 r)) := by
        refine Lib.hid ⟨HR.out.1, ?_⟩
        have hcc := HC.out.2
        have hq2 := HQ.out.2
        rw [HJ.out.1] at hcc hk
        rw [Nat.zero_mul, Nat.zero_add, ← HJ.out.2] at hq2
        have := chain_next (d := 2 * j + 1 + odd) (by rw [show 2 * j + 1 + odd + 2 = 2 * (j + 1) + 1 + odd by omega]; exact hcc) (by rw [← b256_pow]; exact val4_lt HC.out.1) hq2 HP.out.2.1 HP.out.2.2 (by rw [← b256_pow]; exact val4_lt HR.out.1) HR.out.2.2 HR.out.2.1
        rwa [show 34 - (j + 1) + 1 = 34 - j by omega] at this
      have HJ2 := Lib.hid (show j ≤ 34 by have := HJ.out.1; omega)
      have HJ3 := HJ.out.1
      go_wp2_with fail
      go_roundw
      case rel => exact ⟨j, r, d9, HJ2.out, rfl, rfl, HF.out.1, HF.out.2⟩
      case measure => simp [intOf]; omega
end Go.Proofs.YtkhhdpndcidmgaaGreat
/- The sine of an angle of the first quadrant. -/
namespace Go.Proofs.YtkhhdpndcidmgaaGreat
open Go.RowKit

def octS (r : Nat) : Nat := (rotN r).1 / 73786976294838206464
def octC (r : Nat) : Nat := (rotN r).2 / 73786976294838206464
theorem octS_bt {r : Nat} (h1 : 1 ≤ r) (h2 : r ≤ 2700000) (h3 : r ≠ 1800000) : Bt (octS r) (sinT r) := bt_of h2 ((rot_all h1 h2).1 h3) (rot_near h2).1
theorem octC_bt {r : Nat} (h1 : 1 ≤ r) (h2 : r ≤ 2700000) : Bt (octC r) (cosT r) := bt_of h2 (rot_all h1 h2).2 (rot_near h2).2
theorem bt_lt {f : Nat} {v : Rat} (h : Bt f v) (hv : v ≤ 1) : f < 1073741824 := by
  obtain ⟨b1, b2⟩ := h
  have : (f : Rat) < 1073741824 := by grind
  exact_mod_cast this
theorem octS_lt {r : Nat} (h1 : 1 ≤ r) (h2 : r ≤ 2700000) (h3 : r ≠ 1800000) : octS r < 1073741824 := by
  have h4 : r ≤ 2700001 := Nat.le_succ_of_le h2
  exact bt_lt (octS_bt h1 h2 h3) (Rat.le_trans (sin_in h4).2 (Rat.le_trans (xi_in h4).2 (by grind)))
theorem octC_lt {r : Nat} (h1 : 1 ≤ r) (h2 : r ≤ 2700000) : octC r < 1073741824 :=
  bt_lt (octC_bt h1 h2) (cos_in (Nat.le_succ_of_le h2)).2
attribute [irreducible] octS octC
def sinQ (n : Nat) : Nat := if n = 0 then 0 else if n = 1800000 then 536870912 else if n = 5400000 then 1073741824 else if 2 * n ≤ 5400000 then octS n else octC (5400000 - n)
def exaQ (n : Nat) : Bool := n == 0 || n == 1800000 || n == 5400000
theorem top34 {r : List Nat} (h : Wd 4 r) : val4 r / 107839786668602559178668060348078522694548577690162289924414440996864 = nt r 0 / 17179869184 := by
  have e := valB_drop (B := 18446744073709551616) (l := r) (i := 0) (by rw [h.len]; decide)
  rw [List.drop_zero, h.len] at e
  have hlt := valB_lt (B := 18446744073709551616) (by decide) (l := r.drop 1) (fun x hx => h.mem x (List.mem_of_mem_drop hx))
  rw [List.length_drop, h.len] at hlt
  unfold val4
  rw [e]
  rw [show (107839786668602559178668060348078522694548577690162289924414440996864 : Nat) = 18446744073709551616 ^ (4 - 0 - 1) * 17179869184 by decide +kernel, ← Nat.div_div_eq_div_mul]
  rw [show 4 - 1 = 4 - 0 - 1 by rfl] at hlt
  generalize 18446744073709551616 ^ (4 - 0 - 1) = P at *
  rw [Nat.add_comm, Nat.add_mul_div_right _ _ (by omega), Nat.div_eq_of_lt hlt, Nat.zero_add]
theorem sin_cell {r : Nat} {x u p s : List Nat} {y c : Nat} (h1 : 1 ≤ r) (h2 : r ≤ 2700000) (h3 : r ≠ 1800000) (hx : val4 x = r * piN / 10800000) (hu : Wd 4 u) (hs : Wd 4 s)
    (q1 : y * b256 ≤ val4 x * val4 x) (q2 : val4 x * val4 x ≤ (y + 2) * b256) (hc : ChainN b256 y 2 34 (val4 u))
    (p1 : val4 p * b256 ≤ val4 x * val4 u) (p2 : val4 x * val4 u ≤ (val4 p + 2) * b256) (c1 : c ≤ 1) (e : val4 s + val4 p = val4 x + c * b256) : nt s 0 / 17179869184 = octS r := by
  have hul : val4 u < b256 := by rw [← b256_pow]; exact val4_lt hu
  have hsl : val4 s < b256 := by rw [← b256_pow]; exact val4_lt hs
  have hp : val4 p ≤ val4 x := by
    have h4 : val4 p * b256 ≤ val4 x * b256 := Nat.le_trans p1 (Nat.mul_le_mul_left _ (Nat.le_of_lt hul))
    exact Nat.le_of_mul_le_mul_right h4 b256_pos
  have hc2 : c = 0 := by
    have : c = 0 ∨ c = 1 := by omega
    rcases this with rfl | rfl
    · rfl
    · omega
  subst hc2
  rw [← top34 hs]
  exact cell_of (ser_sin h2 hx q1 q2 hc p1 p2 (by omega)) (octS_bt h1 h2 h3)
theorem one_out {f : Nat} {v : Rat} (hf : f < 1073741824) (hb : Bt f v) (hn : Nr (1 - ((0 : Nat) : Rat) / (b256 : Rat)) v sml) : False := by
  have h6 : (f : Rat) + 1 ≤ 1073741824 := by exact_mod_cast hf
  have h7 := hn.1
  have h8 : ((0 : Nat) : Rat) / (b256 : Rat) = 0 := by simp [Rat.div_def]
  rw [h8] at h7
  have h9 := hb.2
  unfold sml at h7
  grind
theorem cos_cell {r : Nat} {x u z s : List Nat} {y c : Nat} (h1 : 1 ≤ r) (h2 : r ≤ 2700000) (hx : val4 x = r * piN / 10800000) (hu : Wd 4 u) (hs : Wd 4 s)
    (q1 : y * b256 ≤ val4 x * val4 x) (q2 : val4 x * val4 x ≤ (y + 2) * b256) (hc : ChainN b256 y 1 34 (val4 u)) (hz : val4 z = 0) (c1 : c ≤ 1) (e : val4 s + val4 u = val4 z + c * b256) : nt s 0 / 17179869184 = octC r := by
  have hul : val4 u < b256 := by rw [← b256_pow]; exact val4_lt hu
  have hn := ser_cos h2 hx q1 q2 hc
  have hb := octC_bt h1 h2
  rw [← top34 hs]
  rw [hz, Nat.zero_add] at e
  have hu0 : val4 u ≠ 0 := fun h0 => by
    rw [h0] at hn
    exact one_out (octC_lt h1 h2) hb hn
  have hc2 : c = 1 := by
    have : c = 0 ∨ c = 1 := by omega
    rcases this with rfl | rfl
    · omega
    · rfl
  subst hc2
  have e2 : (val4 s : Rat) / (b256 : Rat) = 1 - (val4 u : Rat) / (b256 : Rat) := by
    have h5 : (val4 s : Rat) + (val4 u : Rat) = (b256 : Rat) := by exact_mod_cast (show val4 s + val4 u = b256 by omega)
    have hb := b256_rat
    rw [show (val4 s : Rat) = (b256 : Rat) - (val4 u : Rat) by grind]
    grind
  exact cell_of (by rw [e2]; exact hn) hb

theorem sin_wrap {a c : Nat} (h : a / 17179869184 = c) (hc : c < 1073741824) : wrap64 ((a : Int) / 17179869184) = (c : Int) := by
  have e : (a : Int) / 17179869184 = (c : Int) := by omega
  rw [e]
  unfold wrap64
  omega
theorem zero4 : Wd 4 [0, 0, 0, 0] ∧ val4 [0, 0, 0, 0] = 0 := ⟨⟨rfl, fun i => by
  unfold nt
  match i with
  | 0 => decide
  | 1 => decide
  | 2 => decide
  | 3 => decide
  | i + 4 => simp⟩, by decide +kernel⟩
set_option maxHeartbeats 4000000 in
set_option maxRecDepth 100000 in
theorem tg_sine (n : Nat) (hn : n ≤ 5400000) (w : World) :
    Calls Tryz.prog 116 #[.int .i64 (n : Int)] w fun e w' => e = .returned (.tuple #[.int .i64 (sinQ n : Int), .bool (exaQ n)]) ∧ ∃ d, w' = bw w d := by
  refine lay_start ?_
  by_cases c0 : n = 0
  · subst c0
    go_enter Tryz.func116, Tryz.ntmps116
    go_wp2_with fail
    exact bodyPost_ret (v := .tuple #[.int .i64 0, .bool true]) (by simp [results, Tryz.results116, go_sem]) rfl ⟨rfl, lay_ex _ _⟩
  by_cases c1 : n = 1800000
  · subst c1
    go_enter Tryz.func116, Tryz.ntmps116
    go_wp2_with fail
    exact bodyPost_ret (v := .tuple #[.int .i64 536870912, .bool true]) (by simp [results, Tryz.results116, go_sem]) rfl ⟨rfl, lay_ex _ _⟩
  by_cases c2 : n = 5400000
  · subst c2
    go_enter Tryz.func116, Tryz.ntmps116
    go_wp2_with fail
    exact bodyPost_ret (v := .tuple #[.int .i64 1073741824, .bool true]) (by simp [results, Tryz.results116, go_sem]) rfl ⟨rfl, lay_ex _ _⟩
  have b0 : ((n : Int) == 0) = false := beq_eq_false_iff_ne.2 (by omega)
  have b1 : ((n : Int) == 1800000) = false := beq_eq_false_iff_ne.2 (by omega)
  have b2 : ((n : Int) == 5400000) = false := beq_eq_false_iff_ne.2 (by omega)
  have b3 : exaQ n = false := by unfold exaQ; simp [c0, c1, c2]
  rw [b3]
  obtain ⟨N2, hN2⟩ : ∃ N2 : Int, 2 * (n : Int) = N2 := ⟨_, rfl⟩
  have kN2 : IntKind.i64.wrap N2 = N2 := IntWalk.i64_in _ (by omega)
  by_cases c3 : 2 * n ≤ 5400000
  · have b4 : N2 ≤ 5400000 := by omega
    rw [show sinQ n = octS n by unfold sinQ; rw [if_neg c0, if_neg c1, if_neg c2, if_pos c3]]
    have HR := Lib.hid (fun W => tr_radians n (by omega) W)
    unfold nuV at HR
    go_enter Tryz.func116, Tryz.ntmps116
    go_wp2_with (go_at_call 149; refine (HR.out _).mono ?_; rintro e w' ⟨x, dx, rfl, rfl, hx, hx2⟩)
    have HX := Lib.hid (And.intro hx hx2)
    clear hx hx2 HR
    have HL := Lib.hid (fun W => tr_less x 1 HX.out.1 (by decide) W)
    unfold nuV at HL
    rw [show ((1 : Nat) : Int) = 1 from rfl] at HL
    go_wp2_with fail
    refine region_mixS 6 [(0, 0), (1, 0), (2, 0), (3, 1), (4, 1), (5, 1), (6, 3)] (by kernel_rfl) (by kernel_rfl) (by kernel_rfl) rfl ?_
    repeat (first | (refine wpMS_pure rfl (fun K hK => ?_); go_simp; refine hK _ ?_; clear hK K) | (refine wpMS_quiet rfl (fun K hK => ?_); go_simp; first | (refine hK _ ?_; clear hK K) | (apply Exists.intro; refine ⟨fun _ => ?_, hK _ ?_⟩; (first | fail); clear hK K)))
    refine wpMS_special rfl (fun K hK e1 => ?_)
    rw [lay_bw]
    go_simp
    refine (HL.out _).mono ?_
    rintro e w' ⟨u, du, rfl, rfl, hu, y, hy1, hy2, hcn⟩
    have HU := Lib.hid (And.intro hu (And.intro hy1 (And.intro hy2 hcn)))
    clear hu hy1 hy2 hcn HL
    refine ⟨_, rfl, hK _ _ (lay_in w [.inr du, .inr e1] _) ?_⟩
    clear hK K
    have HM := Lib.hid (fun W => nm_mul x u HX.out.1 HU.out.1 W)
    unfold nuV at HM
    refine wpMS_special rfl (fun K hK e2 => ?_)
    rw [lay_bw, lay_bw]
    go_simp
    refine (HM.out _).mono ?_
    rintro e w' ⟨p, dp, rfl, rfl, hp, hp1, hp2⟩
    rw [b256_pow] at hp1 hp2
    have HP := Lib.hid (And.intro hp (And.intro hp1 hp2))
    clear hp hp1 hp2 HM
    refine ⟨_, rfl, hK _ _ (lay_in w [.inr dp, .inr e2, .inr du, .inr e1] _) ?_⟩
    clear hK K
    have HS := Lib.hid (fun W => nm_sub x p HX.out.1 HP.out.1 W)
    unfold nuV at HS
    refine wpMS_special rfl (fun K hK e3 => ?_)
    rw [lay_bw, lay_bw]
    go_simp
    refine (HS.out _).mono ?_
    rintro e w' ⟨r, dr, rfl, rfl, hr, c, hc1, hr2⟩
    rw [b256_pow] at hr2
    have HE := Lib.hid (sin_cell (by omega) (by omega) c1 HX.out.2 HU.out.1 hr HU.out.2.1 HU.out.2.2.1 HU.out.2.2.2 HP.out.2.1 HP.out.2.2 hc1 hr2)
    have HB := Lib.hid (octS_lt (r := n) (by omega) (by omega) c1)
    clear hr hr2 HS hc1
    refine ⟨_, rfl, hK _ _ (lay_in w [.inr dr, .inr e3, .inr dp, .inr e2, .inr du, .inr e1] _) ?_⟩
    clear hK K
    refine wpMS_store rfl (fun K hK e4 => ?_)
    rw [lay_bw, lay_bw]
    go_simp
    refine hK _ _ ?_
    clear hK K
    refine wpMS_nil (fun e5 => ?_)
    rw [lay_bw]
    go_wp2_with fail
    rw [sin_wrap HE.out HB.out]
    exact bodyPost_ret (v := .tuple #[.int .i64 (octS n : Int), .bool false]) (by simp [results, Tryz.results116, go_sem]) rfl ⟨rfl, lay_ex _ _⟩
  · have b4 : ¬ N2 ≤ 5400000 := by omega
    rw [show sinQ n = octC (5400000 - n) by unfold sinQ; rw [if_neg c0, if_neg c1, if_neg c2, if_neg c3]]
    obtain ⟨m, hm⟩ : ∃ m, 5400000 - n = m := ⟨_, rfl⟩
    rw [hm]
    have hm2 : (5400000 : Int) - (n : Int) = (m : Int) := by omega
    have km : IntKind.i64.wrap (m : Int) = (m : Int) := IntWalk.i64_in _ (by omega)
    have HR := Lib.hid (fun W => tr_radians m (by omega) W)
    unfold nuV at HR
    go_enter Tryz.func116, Tryz.ntmps116
    go_wp2_with (go_at_call 149; refine (HR.out _).mono ?_; rintro e w' ⟨x, dx, rfl, rfl, hx, hx2⟩)
    have HX := Lib.hid (And.intro hx hx2)
    clear hx hx2 HR
    have HL := Lib.hid (fun W => tr_less x 0 HX.out.1 (by decide) W)
    unfold nuV at HL
    rw [show ((0 : Nat) : Int) = 0 from rfl] at HL
    go_wp2_with fail
    refine (HL.out _).mono ?_
    rintro e w' ⟨u, du, rfl, rfl, hu, y, hy1, hy2, hcn⟩
    have HU := Lib.hid (And.intro hu (And.intro hy1 (And.intro hy2 hcn)))
    clear hu hy1 hy2 hcn HL
    have HS := Lib.hid (fun W => nm_sub [0, 0, 0, 0] u zero4.1 HU.out.1 W)
    unfold nuV at HS
    change Hid (∀ W, Calls Tryz.prog 150 #[.agg #[.int .u64 0, .int .u64 0, .int .u64 0, .int .u64 0], _] W _) at HS
    go_wp2_with fail
    refine (HS.out _).mono ?_
    rintro e w' ⟨r, dr, rfl, rfl, hr, c, hc1, hr2⟩
    rw [b256_pow] at hr2
    have HE := Lib.hid (cos_cell (by omega) (by omega) HX.out.2 HU.out.1 hr HU.out.2.1 HU.out.2.2.1 HU.out.2.2.2 zero4.2 hc1 hr2)
    have HB := Lib.hid (octC_lt (r := m) (by omega) (by omega))
    clear hr hr2 HS hc1
    go_wp2_with fail
    rw [sin_wrap HE.out HB.out]
    exact bodyPost_ret (v := .tuple #[.int .i64 (octC m : Int), .bool false]) (by simp [results, Tryz.results116, go_sem]) rfl ⟨rfl, lay_ex _ _⟩
attribute [irreducible] sinQ
end Go.Proofs.YtkhhdpndcidmgaaGreat
