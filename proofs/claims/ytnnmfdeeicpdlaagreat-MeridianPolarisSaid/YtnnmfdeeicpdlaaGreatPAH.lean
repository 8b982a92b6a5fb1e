/- Contracts and plain laws, several texts in one: Qn6; Qn7; Qn8; Qn9; QnA; Fa1; Fa2 -/
import Derived.Test.YtnnmfdeeicpdlaaGreatProg
import Derived.WalkKit
import Derived.WalkSpells
import Derived.WalkLawsBesides
import Derived.Lib.Hide
import Derived.BigQuiet
import Derived.Test.YtnnmfdeeicpdlaaGreatPAA
import Derived.Test.YtnnmfdeeicpdlaaGreatPAE
import Derived.Test.YtnnmfdeeicpdlaaGreatPAF
import Derived.Test.YtnnmfdeeicpdlaaGreatPAG
/- arctrig: circle. -/
namespace Go.Proofs.YtnnmfdeeicpdlaaGreat
set_option maxHeartbeats 4000000
set_option maxRecDepth 100000
open Go.RowKit

theorem piA_small {k : Nat} (hk : k ≤ 2700000) : k * piA < 18446744073709551616 ^ 4 := by
  have h1 := Nat.mul_le_mul_right piA hk
  have h2 : 2700000 * piA < 18446744073709551616 ^ 4 := by decide +kernel
  omega
theorem one192 : Wd 4 [1, 0, 0, 0] ∧ val4 [1, 0, 0, 0] = m192 := ⟨⟨rfl, fun i => by
  unfold nt
  rcases i with _ | _ | _ | _ | i <;> simp [List.getD]⟩, by decide +kernel⟩
theorem times_small {v t P : Nat} (h : v + t * 18446744073709551616 ^ 4 = P) (hP : P < 18446744073709551616 ^ 4) : v = P := by
  rcases Nat.eq_zero_or_pos t with g | g
  · subst g; omega
  · have := Nat.mul_le_mul_right (18446744073709551616 ^ 4) g
    omega
theorem region_mixSC {P : Program} {κ : Type} {id : Nat} {Q : Exit → Act → World → Prop} {a : Act} {w : World} {l : List Oper} (st : Nat) (s : List (Nat × Nat)) (Cl : κ → World) (hCl : ∀ k d, ∃ k', bw (Cl k) d = Cl k') (hw : ∃ k, w = Cl k) (hm : P.follows .mixedOrders = true) (hsel : Region.noSelect l.toArray = true)
    (hB : lexMS .any l.toArray st s (Array.replicate l.toArray.size false) = true) (hn : s.length = l.toArray.size)
    (h : wpMS P l l.toArray Cl (fun a w => Q .normal a w) s a w) : (Code.region id l.toArray true).wp P Q a w := by
  refine wp_region_any hm ?_
  have := wpD_of_wpMS (md := .any) (st := st) hCl (fun j => by simp) hsel s _ a w (.inr hw) hB h
  have := wpD_ext (⟨#[], w.drawn + 1⟩ : Ext) this
  rw [← bw_drewExt] at this
  have := wpD_sound (Q' := Q) _ _ _ _ this
  rwa [hn] at this
@[go_sem] def clC (w : World) (d1 d2 d3 d4 : Ext) (r2 r3 : List Nat) (p : Array Value × Ext) : World := lay w [.inr p.2, .inl (.cells #[.int .u64 (nt r3 0 : Int), .int .u64 (nt r3 1 : Int), .int .u64 (nt r3 2 : Int), .int .u64 (nt r3 3 : Int)] 241 (0, 0)), .inr d4, .inl (.cells #[.int .u64 (nt r2 0 : Int), .int .u64 (nt r2 1 : Int), .int .u64 (nt r2 2 : Int), .int .u64 (nt r2 3 : Int)] 241 (0, 0)), .inr d3, .inr d2, .inr d1, .inl (.cells #[.int .u64 0, .int .u64 0, .int .u64 0, .int .u64 0] 241 (0, 0)), .inl (.cells p.1 241 (0, 0))]
theorem clC_ext (w : World) (d1 d2 d3 d4 : Ext) (r2 r3 : List Nat) (p : Array Value × Ext) (d : Ext) : ∃ p', bw (clC w d1 d2 d3 d4 r2 r3 p) d = clC w d1 d2 d3 d4 r2 r3 p' := by
  obtain ⟨e, he⟩ := lay_fold w [.inr d, .inr p.2] [.inl (.cells #[.int .u64 (nt r3 0 : Int), .int .u64 (nt r3 1 : Int), .int .u64 (nt r3 2 : Int), .int .u64 (nt r3 3 : Int)] 241 (0, 0)), .inr d4, .inl (.cells #[.int .u64 (nt r2 0 : Int), .int .u64 (nt r2 1 : Int), .int .u64 (nt r2 2 : Int), .int .u64 (nt r2 3 : Int)] 241 (0, 0)), .inr d3, .inr d2, .inr d1, .inl (.cells #[.int .u64 0, .int .u64 0, .int .u64 0, .int .u64 0] 241 (0, 0)), .inl (.cells p.1 241 (0, 0))]
  exact ⟨(p.1, e), he⟩
theorem ar_circle0 (k : Nat) (hk : k ≤ 2700000) (w : World) :
    Calls Tryz.prog 245 #[.int .i64 (k : Int)] w fun e w' => ∃ s c d, e = .returned (.tuple #[nuV s, nuV c]) ∧ w' = bw w d ∧ Wd 4 s ∧ Wd 4 c ∧ (val4 s : Int) = sinA k ∧ (val4 c : Int) = cosA k := by
  have g1 : ¬ (2700000 : Int) < (k : Int) := by omega
  have g2 : ¬ 2700000 < k := by omega
  have kk : IntKind.u64.wrap (k : Int) = (k : Int) := IntWalk.u64_in _ (by omega)
  obtain ⟨h1, h2, h3, h4⟩ := sqA_near hk
  have HPi := Lib.hid (fun W => ar_pi W)
  unfold nuV at *
  refine lay_start ?_
  go_enter Tryz.func245, Tryz.ntmps245
  go_wp2_with (go_at_call 287; refine (HPi.out _).mono ?_; rintro e w' ⟨rfl, d1, rfl⟩; rw [lay_bw])
  have HT := qn_times piAL k piAL_wd (by omega)
  unfold nuV at HT
  refine (HT _).mono ?_
  rintro e w' ⟨r1, d2, rfl, rfl, hw1, t, ht⟩
  rw [piAL_val] at ht
  have ht2 := times_small ht (piA_small hk)
  rw [lay_bw]
  go_wp2_with fail
  have HO := qn_over r1 10800000 hw1 (by decide) (by decide)
  unfold nuV at HO
  refine (HO _).mono ?_
  rintro e w' ⟨r2, d3, rfl, rfl, hw2, hv2⟩
  rw [ht2] at hv2
  rw [lay_bw]
  have HW := Lib.hid (And.intro hw2 (show val4 r2 = tA k from hv2))
  clear hw1 hw2 hv2 ht ht2 t
  have HM := qn_mul r2 r2 HW.out.1 HW.out.1 (by
    rw [HW.out.2]
    have h5 := Nat.mul_le_mul h2 h2
    have h6 : m192 * m192 < 18446744073709551616 ^ 7 := by decide +kernel
    omega)
  unfold nuV at HM
  go_wp2_with fail
  refine (HM _).mono ?_
  rintro e w' ⟨r3, d4, rfl, rfl, hw3, hv3⟩
  have hv4 : val4 r3 = sqA k := by rw [hv3, HW.out.2, ← m192_pow]; rfl
  rw [lay_bw]
  have HS1 := Lib.hid (fun W => ar_series r2 r3 1 HW.out.1 hw3 (by rw [HW.out.2]; exact h2) (by rw [hv4]; exact h1) (by decide) W)
  have HS2 := Lib.hid (fun W => ar_series [1, 0, 0, 0] r3 0 one192.1 hw3 (by rw [one192.2]; exact Nat.le_refl _) (by rw [hv4]; exact h1) (by decide) W)
  rw [HW.out.2, hv4] at HS1
  rw [one192.2, hv4] at HS2
  unfold nuV at HS1 HS2
  rw [show ((1 : Nat) : Int) = 1 from rfl] at HS1
  rw [show ((0 : Nat) : Int) = 0 from rfl, show nt [1, 0, 0, 0] 0 = 1 from rfl, show nt [1, 0, 0, 0] 1 = 0 from rfl, show nt [1, 0, 0, 0] 2 = 0 from rfl, show nt [1, 0, 0, 0] 3 = 0 from rfl, show ((1 : Nat) : Int) = 1 from rfl, show ((0 : Nat) : Int) = 0 from rfl] at HS2
  clear hw3 hv3 hv4 HM HO HT HPi h1 h2 h3 h4
  go_wp2_with fail
  refine region_mixSC 7 [(0, 0), (1, 0), (3, 0), (4, 0), (2, 1), (5, 1), (6, 1), (7, 3)] (clC w d1 d2 d3 d4 r2 r3) (clC_ext w d1 d2 d3 d4 r2 r3) ⟨(#[.int .u64 0, .int .u64 0, .int .u64 0, .int .u64 0], noExt (lay w [.inl (.cells #[.int .u64 (nt r3 0 : Int), .int .u64 (nt r3 1 : Int), .int .u64 (nt r3 2 : Int), .int .u64 (nt r3 3 : Int)] 241 (0, 0)), .inr d4, .inl (.cells #[.int .u64 (nt r2 0 : Int), .int .u64 (nt r2 1 : Int), .int .u64 (nt r2 2 : Int), .int .u64 (nt r2 3 : Int)] 241 (0, 0)), .inr d3, .inr d2, .inr d1, .inl (.cells #[.int .u64 0, .int .u64 0, .int .u64 0, .int .u64 0] 241 (0, 0)), .inl (.cells #[.int .u64 0, .int .u64 0, .int .u64 0, .int .u64 0] 241 (0, 0))])), (bw_noExt (lay w [.inl (.cells #[.int .u64 (nt r3 0 : Int), .int .u64 (nt r3 1 : Int), .int .u64 (nt r3 2 : Int), .int .u64 (nt r3 3 : Int)] 241 (0, 0)), .inr d4, .inl (.cells #[.int .u64 (nt r2 0 : Int), .int .u64 (nt r2 1 : Int), .int .u64 (nt r2 2 : Int), .int .u64 (nt r2 3 : Int)] 241 (0, 0)), .inr d3, .inr d2, .inr d1, .inl (.cells #[.int .u64 0, .int .u64 0, .int .u64 0, .int .u64 0] 241 (0, 0)), .inl (.cells #[.int .u64 0, .int .u64 0, .int .u64 0, .int .u64 0] 241 (0, 0))])).symm⟩ (by kernel_rfl) (by kernel_rfl) (by kernel_rfl) rfl ?_
  repeat (refine wpMS_quiet rfl (fun K hK => ?_); go_simp; (first | (refine hK _ ?_; clear hK K) | (apply Exists.intro; refine ⟨fun p => ?_, hK _ ?_⟩; (rcases p with ⟨p1, p2⟩; fail); clear hK K)))
  refine wpMS_special rfl (fun K hK e1 => ?_)
  rw [lay_bw]
  go_simp
  refine (HS1.out _).mono ?_
  rintro e w' ⟨s1, f1, rfl, rfl, hs1, hs2⟩
  have HA := Lib.hid (And.intro hs1 hs2)
  clear hs1 hs2 HS1
  refine ⟨_, rfl, hK _ _ ⟨(_, _), (lay_fold w [.inr f1, .inr e1] [.inl (.cells #[.int .u64 (nt r3 0 : Int), .int .u64 (nt r3 1 : Int), .int .u64 (nt r3 2 : Int), .int .u64 (nt r3 3 : Int)] 241 (0, 0)), .inr d4, .inl (.cells #[.int .u64 (nt r2 0 : Int), .int .u64 (nt r2 1 : Int), .int .u64 (nt r2 2 : Int), .int .u64 (nt r2 3 : Int)] 241 (0, 0)), .inr d3, .inr d2, .inr d1, .inl (.cells #[.int .u64 0, .int .u64 0, .int .u64 0, .int .u64 0] 241 (0, 0)), .inl (.cells #[.int .u64 0, .int .u64 0, .int .u64 0, .int .u64 0] 241 (0, 0))]).choose_spec⟩ ?_⟩
  clear hK K
  refine wpMS_special rfl (fun K hK e2 => ?_)
  rw [lay_bw, lay_bw]
  go_simp
  refine (HS2.out _).mono ?_
  rintro e w' ⟨s2, f2, rfl, rfl, hs1, hs2⟩
  have HB := Lib.hid (And.intro hs1 hs2)
  clear hs1 hs2 HS2
  refine ⟨_, rfl, hK _ _ ⟨(_, _), (lay_fold w [.inr f2, .inr e2, .inr f1, .inr e1] [.inl (.cells #[.int .u64 (nt r3 0 : Int), .int .u64 (nt r3 1 : Int), .int .u64 (nt r3 2 : Int), .int .u64 (nt r3 3 : Int)] 241 (0, 0)), .inr d4, .inl (.cells #[.int .u64 (nt r2 0 : Int), .int .u64 (nt r2 1 : Int), .int .u64 (nt r2 2 : Int), .int .u64 (nt r2 3 : Int)] 241 (0, 0)), .inr d3, .inr d2, .inr d1, .inl (.cells #[.int .u64 0, .int .u64 0, .int .u64 0, .int .u64 0] 241 (0, 0)), .inl (.cells #[.int .u64 0, .int .u64 0, .int .u64 0, .int .u64 0] 241 (0, 0))]).choose_spec⟩ ?_⟩
  clear hK K
  refine wpMS_special rfl (fun K hK e3 => ?_)
  rw [lay_bw, lay_bw]
  go_simp
  refine hK _ _ ⟨(_, _), (lay_fold w [.inr e3, .inr f2, .inr e2, .inr f1, .inr e1] [.inl (.cells #[.int .u64 (nt r3 0 : Int), .int .u64 (nt r3 1 : Int), .int .u64 (nt r3 2 : Int), .int .u64 (nt r3 3 : Int)] 241 (0, 0)), .inr d4, .inl (.cells #[.int .u64 (nt r2 0 : Int), .int .u64 (nt r2 1 : Int), .int .u64 (nt r2 2 : Int), .int .u64 (nt r2 3 : Int)] 241 (0, 0)), .inr d3, .inr d2, .inr d1, .inl (.cells #[.int .u64 0, .int .u64 0, .int .u64 0, .int .u64 0] 241 (0, 0)), .inl (.cells #[.int .u64 (nt s1 0 : Int), .int .u64 (nt s1 1 : Int), .int .u64 (nt s1 2 : Int), .int .u64 (nt s1 3 : Int)] 241 (0, 0))]).choose_spec⟩ ?_
  clear hK K
  refine wpMS_store rfl (fun K hK e4 => ?_)
  rw [lay_bw]
  go_simp
  refine hK _ _ ?_
  clear hK K
  refine wpMS_nil (fun e5 => ?_)
  rw [lay_bw]
  go_wp2_with fail
  obtain ⟨dz, ez⟩ := lay_all w [.inr e5, .inr e4, .inr e3, .inr f2, .inr e2, .inr f1, .inr e1, .inl (.cells #[.int .u64 (nt r3 0 : Int), .int .u64 (nt r3 1 : Int), .int .u64 (nt r3 2 : Int), .int .u64 (nt r3 3 : Int)] 241 (0, 0)), .inr d4, .inl (.cells #[.int .u64 (nt r2 0 : Int), .int .u64 (nt r2 1 : Int), .int .u64 (nt r2 2 : Int), .int .u64 (nt r2 3 : Int)] 241 (0, 0)), .inr d3, .inr d2, .inr d1, .inl (.cells #[.int .u64 (nt s2 0 : Int), .int .u64 (nt s2 1 : Int), .int .u64 (nt s2 2 : Int), .int .u64 (nt s2 3 : Int)] 241 (0, 0)), .inl (.cells #[.int .u64 (nt s1 0 : Int), .int .u64 (nt s1 1 : Int), .int .u64 (nt s1 2 : Int), .int .u64 (nt s1 3 : Int)] 241 (0, 0))]
  exact bodyPost_ret (v := .tuple #[.agg #[.int .u64 (nt s1 0 : Int), .int .u64 (nt s1 1 : Int), .int .u64 (nt s1 2 : Int), .int .u64 (nt s1 3 : Int)], .agg #[.int .u64 (nt s2 0 : Int), .int .u64 (nt s2 1 : Int), .int .u64 (nt s2 2 : Int), .int .u64 (nt s2 3 : Int)]]) (by simp [results, Tryz.results245, go_sem]) rfl ⟨s1, s2, dz, rfl, ez, HA.out.1, HB.out.1, HA.out.2.symm, HB.out.2.symm⟩
theorem ar_circle (k : Nat) (hk : k ≤ 5400000) (w : World) :
    Calls Tryz.prog 245 #[.int .i64 (k : Int)] w fun e w' => ∃ s c d, e = .returned (.tuple #[nuV s, nuV c]) ∧ w' = bw w d ∧ Wd 4 s ∧ Wd 4 c ∧ (val4 s : Int) = siA k ∧ (val4 c : Int) = coA k := by
  unfold siA coA
  rcases Nat.lt_or_ge 2700000 k with g | g
  · rw [if_pos g, if_pos g]
    have g1 : (2700000 : Int) < (k : Int) := by omega
    have HC := Lib.hid (fun W => ar_circle0 (5400000 - k) (by omega) W)
    have kk : IntKind.i64.wrap (5400000 - (k : Int)) = ((5400000 - k : Nat) : Int) := by
      rw [show (5400000 - (k : Int)) = ((5400000 - k : Nat) : Int) by omega]
      exact IntWalk.i64_in _ (by omega)
    generalize 5400000 - k = k' at HC kk ⊢
    unfold nuV at *
    refine lay_start ?_
    go_enter Tryz.func245, Tryz.ntmps245
    go_wp2_with fail
    refine (HC.out _).mono ?_
    rintro e w' ⟨s1, c1, d1, rfl, rfl, h1, h2, h3, h4⟩
    rw [lay_bw]
    go_wp2_with fail
    go_region
    rw [bw_drewExt, lay_bw]
    go_wp2_with fail
    refine bodyPost_ret (v := .tuple #[.agg #[.int .u64 (nt c1 0 : Int), .int .u64 (nt c1 1 : Int), .int .u64 (nt c1 2 : Int), .int .u64 (nt c1 3 : Int)], .agg #[.int .u64 (nt s1 0 : Int), .int .u64 (nt s1 1 : Int), .int .u64 (nt s1 2 : Int), .int .u64 (nt s1 3 : Int)]]) (by simp [results, Tryz.results245, go_sem]) rfl ?_
    obtain ⟨dz, ez⟩ := lay_ex w [.inr ⟨#[], (lay w [.inr d1, .inl (.cells #[.int .u64 (nt s1 0 : Int), .int .u64 (nt s1 1 : Int), .int .u64 (nt s1 2 : Int), .int .u64 (nt s1 3 : Int)] 241 (0, 0)), .inl (.cells #[.int .u64 (nt c1 0 : Int), .int .u64 (nt c1 1 : Int), .int .u64 (nt c1 2 : Int), .int .u64 (nt c1 3 : Int)] 241 (0, 0))]).drawn + 1⟩, .inr d1, .inl (.cells #[.int .u64 (nt s1 0 : Int), .int .u64 (nt s1 1 : Int), .int .u64 (nt s1 2 : Int), .int .u64 (nt s1 3 : Int)] 241 (0, 0)), .inl (.cells #[.int .u64 (nt c1 0 : Int), .int .u64 (nt c1 1 : Int), .int .u64 (nt c1 2 : Int), .int .u64 (nt c1 3 : Int)] 241 (0, 0))]
    exact ⟨c1, s1, dz, rfl, ez, h2, h1, h4, h3⟩
  · rw [if_neg (by omega), if_neg (by omega)]
    exact ar_circle0 k g w
end Go.Proofs.YtnnmfdeeicpdlaaGreat
/- arctrig: reaches. -/
namespace Go.Proofs.YtnnmfdeeicpdlaaGreat
open Go.RowKit

theorem le_two {a z e : Rat} (h : a ≤ z + e) (hz : z ≤ 1) (he : e ≤ 1) : a ≤ 2 := by grind
theorem eA_one : eA ≤ 1 := by unfold eA; grind
theorem sico_le {k : Nat} (hk : k ≤ 5400000) : siA k ≤ 2 * (m192 : Int) ∧ coA k ≤ 2 * (m192 : Int) := by
  obtain ⟨⟨m1, n1⟩, ⟨m2, n2⟩⟩ := siA_near hk
  have hu := z_unit k
  obtain ⟨b1, b2⟩ := sq_one hu
  have hu2 : zc k * zc k + zs k * zs k = 1 := by rw [← hu]; grind
  obtain ⟨b3, b4⟩ := sq_one hu2
  have hm := m192_rat
  have key : ∀ z : Int, (z : Rat) / (m192 : Rat) ≤ 2 → z ≤ 2 * (m192 : Int) := by
    intro z h
    have h1 : (z : Rat) = ((z : Rat) / (m192 : Rat)) * (m192 : Rat) := by grind
    have h2 := Rat.mul_le_mul_of_nonneg_right h (Rat.le_of_lt hm)
    rw [← h1] at h2
    have h3 : ((2 * (m192 : Int) : Int) : Rat) = 2 * (m192 : Rat) := by
      rw [Rat.intCast_mul]; rfl
    rw [← h3] at h2
    exact Rat.intCast_le_intCast.1 h2
  first | exact ⟨key _ (le_two n1 b2 eA_one), key _ (le_two n2 b4 eA_one)⟩ | exact ⟨key _ (le_two m1 b2 eA_one), key _ (le_two m2 b4 eA_one)⟩
theorem m192_33 : 2 * m192 * 2147483649 < 18446744073709551616 ^ 4 := by decide +kernel
set_option maxHeartbeats 4000000 in
set_option maxRecDepth 100000 in
theorem ar_reaches (u v k : Nat) (hk : k ≤ 5400000) (hu : u ≤ 2147483648) (hv : v ≤ 2147483648) (w : World) :
    Calls Tryz.prog 195 #[.agg #[.int .i64 (u : Int), .int .i64 (v : Int)], .int .i64 (k : Int)] w fun e w' => e = .returned (.bool (rchB u v k)) ∧ ∃ d, w' = bw w d := by
  refine lay_start ?_
  unfold rchB
  by_cases h0 : k = 0
  · subst h0
    go_enter Tryz.func195, Tryz.ntmps195
    go_wp2_with fail
    exact bodyPost_ret (v := .bool true) (by simp [results, Tryz.results195, go_sem]) rfl ⟨rfl, lay_ex _ _⟩
  rw [if_neg h0]
  by_cases h1 : k = 2700000
  · subst h1
    go_enter Tryz.func195, Tryz.ntmps195
    go_wp2_with fail
    exact bodyPost_ret (v := .bool (decide (u ≤ v))) (by simp [results, Tryz.results195, go_sem]) rfl ⟨by first | rfl | simp, lay_ex _ _⟩
  rw [if_neg h1]
  have e0 : ¬ (k : Int) = 0 := by omega
  have e1 : ¬ (k : Int) = 2700000 := by omega
  have k1 : IntKind.u64.wrap (u : Int) = (u : Int) := IntWalk.u64_in _ (by omega)
  have k2 : IntKind.u64.wrap (v : Int) = (v : Int) := IntWalk.u64_in _ (by omega)
  have HC := Lib.hid (fun W => ar_circle k hk W)
  obtain ⟨s1, s2⟩ := sico_le hk
  unfold nuV at *
  go_enter Tryz.func195, Tryz.ntmps195
  go_wp2_with fail
  refine (HC.out _).mono ?_
  rintro e w' ⟨s, c, d1, rfl, rfl, hs, hc, hs2, hc2⟩
  rw [lay_bw]
  have HU := Lib.hid (And.intro hs (And.intro hc (And.intro hs2 hc2)))
  have T1 := Lib.hid (fun W => qn_times c v hc (by omega) W)
  have T2 := Lib.hid (fun W => qn_times s u hs (by omega) W)
  have b1 : val4 c ≤ 2 * m192 := by omega
  have b2 : val4 s ≤ 2 * m192 := by omega
  have p1 : v * val4 c < 18446744073709551616 ^ 4 := by
    have h3 := Nat.mul_le_mul hv b1
    have h4 := m192_33
    omega
  have p2 : u * val4 s < 18446744073709551616 ^ 4 := by
    have h3 := Nat.mul_le_mul hu b2
    have h4 := m192_33
    omega
  have HP := Lib.hid (And.intro p1 p2)
  unfold nuV at T1 T2
  clear hs hc hs2 hc2 HC s1 s2 b1 b2 p1 p2
  go_wp2_with fail
  refine region_mixP [(0, 0), (1, 0), (2, 0), (3, 0), (5, 0), (6, 0), (7, 0), (8, 0), (4, 1), (9, 1), (10, 1), (11, 0)] (by kernel_rfl) (by kernel_rfl) (by kernel_rfl) (by kernel_rfl) (by decide) (by kernel_rfl) ?_
  simp only [List.drop_succ_cons, List.drop_zero, List.length_cons, List.length_nil, Nat.reduceAdd]
  iterate 8 (refine wpMP_quiet rfl (fun K hK => ?_); go_simp; refine hK _ ?_; clear hK K)
  refine wpMP_special rfl (fun K hK d0 => ?_)
  rw [lay_bw]
  go_simp
  refine (T1.out _).mono ?_
  rintro e w' ⟨r1, f1, rfl, rfl, hw1, t1, ht1⟩
  have hr1 := times_small ht1 HP.out.1
  have HR1 := Lib.hid (And.intro hw1 hr1)
  clear hw1 ht1 hr1 t1
  refine ⟨_, rfl, ?_⟩
  go_simp
  refine hK _ _ (lay_in w [_, _] _) ?_
  clear hK K
  refine wpMP_special rfl (fun K hK d2 => ?_)
  rw [lay_bw]
  go_simp
  refine (T2.out _).mono ?_
  rintro e w' ⟨r2, f2, rfl, rfl, hw1, t1, ht1⟩
  have hr1 := times_small ht1 HP.out.2
  have HR2 := Lib.hid (And.intro hw1 hr1)
  clear hw1 ht1 hr1 t1
  refine ⟨_, rfl, ?_⟩
  go_simp
  refine hK _ _ (lay_in w [_, _, _, _] _) ?_
  clear hK K
  have HL := Lib.hid (fun W => qn_less r1 r2 HR1.out.1 HR2.out.1 W)
  unfold nuV at HL
  rw [HR1.out.2, HR2.out.2] at HL
  refine wpMP_special rfl (fun K hK d3 => ?_)
  rw [lay_bw]
  go_simp
  refine (HL.out _).mono ?_
  rintro e w' ⟨rfl, f3, rfl⟩
  refine ⟨_, rfl, ?_⟩
  go_simp
  refine hK _ _ (lay_in w [_, _, _, _, _, _] _) ?_
  clear hK K
  iterate 1 (refine wpMP_quiet rfl (fun K hK => ?_); go_simp; refine hK _ ?_; clear hK K)
  refine wpMP_nil ?_
  intro d4
  rw [lay_bw]
  go_wp2_with fail
  refine bodyPost_ret (v := .bool (!decide (v * val4 c < u * val4 s))) (by simp [results, Tryz.results195, go_sem]) rfl ⟨?_, lay_ex _ _⟩
  rw [← HU.out.2.2.1, ← HU.out.2.2.2]
  refine congrArg Ending.returned (congrArg Value.bool ?_)
  have e1 : ((val4 s : Int) * (u : Int) ≤ (val4 c : Int) * (v : Int)) ↔ ¬ (v * val4 c < u * val4 s) := by
    rw [← Int.natCast_mul, ← Int.natCast_mul, Int.ofNat_le, Nat.not_lt, Nat.mul_comm (val4 s), Nat.mul_comm (val4 c)]
  simp only [e1]
  by_cases hh : v * val4 c < u * val4 s <;> simp [hh]
end Go.Proofs.YtnnmfdeeicpdlaaGreat
/- arctrig: angle. -/
namespace Go.Proofs.YtnnmfdeeicpdlaaGreat
open Go.RowKit

end Go.Proofs.YtnnmfdeeicpdlaaGreat
/- arctrig: angle, below the axis. -/
namespace Go.Proofs.YtnnmfdeeicpdlaaGreat
open Go.RowKit

end Go.Proofs.YtnnmfdeeicpdlaaGreat
/- arctrig: before; the corners of a box. -/
namespace Go.Proofs.YtnnmfdeeicpdlaaGreat
open Go.RowKit

def befB (a b c d : Int) : Bool := decide (b * c ≤ a * d)
theorem mul_bdQ {a b : Int} (ha : -2147483648 ≤ a) (ha2 : a ≤ 2147483648) (hb : -2147483648 ≤ b) (hb2 : b ≤ 2147483648) : -4611686018427387904 ≤ a * b ∧ a * b ≤ 4611686018427387904 := by
  have h1 : a.natAbs ≤ 2147483648 := by omega
  have h2 : b.natAbs ≤ 2147483648 := by omega
  have h3 := Nat.mul_le_mul h1 h2
  rw [← Int.natAbs_mul] at h3
  omega
def Bd31 (a : Int) : Prop := -2147483648 ≤ a ∧ a ≤ 2147483648
set_option maxRecDepth 100000 in
theorem ar_before (a b c d : Int) (ha : Bd31 a) (hb : Bd31 b) (hc : Bd31 c) (hd : Bd31 d) (w : World) :
    Calls Tryz.prog 117 #[.agg #[.int .i64 a, .int .i64 b], .agg #[.int .i64 c, .int .i64 d]] w fun e w' => e = .returned (.bool (befB a b c d)) ∧ ∃ d, w' = bw w d := by
  obtain ⟨p1, p2⟩ := mul_bdQ ha.1 ha.2 hd.1 hd.2
  obtain ⟨q1, q2⟩ := mul_bdQ hb.1 hb.2 hc.1 hc.2
  have k1 : IntKind.i64.wrap (a * d) = a * d := IntWalk.i64_in _ (by omega)
  have k2 : IntKind.i64.wrap (b * c) = b * c := IntWalk.i64_in _ (by omega)
  clear p1 p2 q1 q2
  unfold befB
  refine lay_start ?_
  go_enter Tryz.func117, Tryz.ntmps117
  go_wp2_with fail
  exact bodyPost_ret (v := .bool (decide (b * c ≤ a * d))) (by simp [results, Tryz.results117, go_sem]) rfl ⟨rfl, lay_ex _ _⟩
def crX (x0 x1 : Int) (j : Nat) : Int := if j < 2 then x0 else x1
def crY (y0 y1 : Int) (j : Nat) : Int := if j = 0 ∨ j = 2 then y0 else y1
structure BoxI (x0 x1 y0 y1 : Int) (i : Nat) (a b c d : Int) : Prop where
  i4 : i ≤ 4
  f : ∃ j, j < 4 ∧ a = crX x0 x1 j ∧ b = crY y0 y1 j
  l : ∃ j, j < 4 ∧ c = crX x0 x1 j ∧ d = crY y0 y1 j
  fm : ∀ j, j < i → b * crX x0 x1 j ≤ crY y0 y1 j * a
  lm : ∀ j, j < i → crY y0 y1 j * c ≤ d * crX x0 x1 j
theorem slp {a b p q x y : Int} (ha : 0 < a) (hp : 0 < p) (hx : 0 < x) (h1 : q * a ≤ p * b) (h2 : b * x ≤ y * a) : q * x ≤ y * p := by
  have m1 := Int.mul_le_mul_of_nonneg_right h1 (show 0 ≤ x by omega)
  have m2 := Int.mul_le_mul_of_nonneg_left h2 (show 0 ≤ p by omega)
  refine Int.le_of_mul_le_mul_right (a := a) ?_ ha
  grind
theorem crX_pos {x0 x1 : Int} (h0 : 0 < x0) (h1 : x0 ≤ x1) (j : Nat) : 0 < crX x0 x1 j := by
  unfold crX; split <;> omega
theorem BoxI.start {x0 x1 y0 y1 : Int} : BoxI x0 x1 y0 y1 0 x0 y0 x0 y0 := ⟨by omega, ⟨0, by decide, rfl, rfl⟩, ⟨0, by decide, rfl, rfl⟩, fun j h => absurd h (by omega), fun j h => absurd h (by omega)⟩
theorem BoxI.step {x0 x1 y0 y1 : Int} {i : Nat} {a b c d p q : Int} (h : BoxI x0 x1 y0 y1 i a b c d) (h0 : 0 < x0) (h1 : x0 ≤ x1) (hi : i < 4) (hp : p = crX x0 x1 i) (hq : q = crY y0 y1 i) :
    BoxI x0 x1 y0 y1 (i + 1) (if befB p q a b = true then p else a) (if befB p q a b = true then q else b) (if befB c d p q = true then p else c) (if befB c d p q = true then q else d) := by
  obtain ⟨jf, hf, rfl, rfl⟩ := h.f
  obtain ⟨jl, hl, rfl, rfl⟩ := h.l
  have ha := crX_pos h0 h1 jf
  have hc := crX_pos h0 h1 jl
  have hpp := crX_pos h0 h1 i
  have hfm := h.fm
  have hlm := h.lm
  subst hp hq
  unfold befB
  refine ⟨by omega, ?_, ?_, fun j hj => ?_, fun j hj => ?_⟩
  · by_cases g : crY y0 y1 i * crX x0 x1 jf ≤ crX x0 x1 i * crY y0 y1 jf
    · simp only [g, decide_true, if_true]; exact ⟨i, hi, rfl, rfl⟩
    · simp only [g, decide_false, if_false, Bool.false_eq_true]; exact ⟨jf, hf, rfl, rfl⟩
  · by_cases g : crY y0 y1 jl * crX x0 x1 i ≤ crX x0 x1 jl * crY y0 y1 i
    · simp only [g, decide_true, if_true]; exact ⟨i, hi, rfl, rfl⟩
    · simp only [g, decide_false, if_false, Bool.false_eq_true]; exact ⟨jl, hl, rfl, rfl⟩
  · have hx := crX_pos h0 h1 j
    by_cases g : crY y0 y1 i * crX x0 x1 jf ≤ crX x0 x1 i * crY y0 y1 jf
    · simp only [g, decide_true, if_true]
      rcases (show j < i ∨ j = i by omega) with k | k
      · exact slp ha hpp hx g (hfm j k)
      · subst k; exact Int.le_refl _
    · simp only [g, decide_false, if_false, Bool.false_eq_true]
      rcases (show j < i ∨ j = i by omega) with k | k
      · exact hfm j k
      · subst k
        rw [Int.mul_comm]
        exact Int.le_of_lt (Int.not_le.1 g)
  · have hx := crX_pos h0 h1 j
    by_cases g : crY y0 y1 jl * crX x0 x1 i ≤ crX x0 x1 jl * crY y0 y1 i
    · simp only [g, decide_true, if_true]
      rcases (show j < i ∨ j = i by omega) with k | k
      · have h5 := hlm j k
        rw [Int.mul_comm (crY y0 y1 jl)] at h5
        exact slp hc hx hpp h5 (by rw [Int.mul_comm (crY y0 y1 i)]; exact g)
      · subst k; exact Int.le_refl _
    · simp only [g, decide_false, if_false, Bool.false_eq_true]
      rcases (show j < i ∨ j = i by omega) with k | k
      · exact hlm j k
      · subst k
        rw [Int.mul_comm (crY y0 y1 j)]
        exact Int.le_of_lt (Int.not_le.1 g)
end Go.Proofs.YtnnmfdeeicpdlaaGreat
/- Bearing as a function: bisection, quadrants, corners. No function of the program. -/
namespace Go.Proofs.YtnnmfdeeicpdlaaGreat
open Go.RowKit

def bisF (u v : Int) : Nat → Nat → Nat → Nat
  | 0, l, _ => l
  | f + 1, l, h => if l + 1 < h then (if rchB u v ((l + h) / 2) = true then bisF u v f ((l + h) / 2) h else bisF u v f l ((l + h) / 2)) else l
theorem bisF_end {u v : Int} {f l : Nat} : bisF u v f l (l + 1) = l := by cases f <;> simp [bisF]
theorem bisF_step {u v : Int} {f l h m : Nat} (hm : m = (l + h) / 2) (c : l + 1 < h) (hf : h - l ≤ 2 ^ f) :
    ∃ f', (rchB u v m = false → m - l ≤ 2 ^ f' ∧ bisF u v f' l m = bisF u v f l h) ∧ (rchB u v m = true → h - m ≤ 2 ^ f' ∧ bisF u v f' m h = bisF u v f l h) := by
  cases f with
  | zero => simp at hf; omega
  | succ f =>
    rw [Nat.pow_succ] at hf
    have e : bisF u v (f + 1) l h = if l + 1 < h then (if rchB u v ((l + h) / 2) = true then bisF u v f ((l + h) / 2) h else bisF u v f l ((l + h) / 2)) else l := rfl
    rw [e, if_pos c, ← hm]
    refine ⟨f, fun hr => ⟨by omega, ?_⟩, fun hr => ⟨by omega, ?_⟩⟩
    · rw [hr, if_neg Bool.false_ne_true]
    · rw [hr, if_pos rfl]
theorem bisF_lt {u v : Int} : ∀ {f l h : Nat}, l < h → bisF u v f l h < h
  | 0, l, h, c => c
  | f + 1, l, h, c => by
    unfold bisF
    split
    · split
      · exact bisF_lt (by omega)
      · have := bisF_lt (u := u) (v := v) (f := f) (l := l) (h := (l + h) / 2) (by omega)
        omega
    · exact c
def exF (u v : Int) (k : Nat) : Bool := decide (k = 0 ∧ v = 0) || decide (k = 2700000 ∧ u = v)
structure AngF (u v : Int) (k : Nat) (ex : Bool) : Prop where
  lt : k < 5400000
  fn : k = bisF u v 23 0 5400000
  ex : ex = (decide (k = 0 ∧ v = 0) || decide (k = 2700000 ∧ u = v))
def ang1 (T u v : Int) : Int × Bool := (T + (bisF u v 23 0 5400000 : Nat), exF u v (bisF u v 23 0 5400000))
def angF (X Y : Int) : Int × Bool :=
  if 0 < X ∧ 0 ≤ Y then ang1 0 X Y else if 0 < Y ∧ X ≤ 0 then ang1 5400000 Y (-X) else if X < 0 ∧ Y ≤ 0 then ang1 10800000 (-X) (-Y) else ang1 16200000 (-Y) X
theorem AngF.eq {u v : Int} {k : Nat} {ex : Bool} (h : AngF u v k ex) (T : Int) : ang1 T u v = (T + (k : Int), ex) := by
  unfold ang1 exF
  rw [← h.fn, h.ex]
theorem angF_bd (X Y : Int) : 0 ≤ (angF X Y).1 ∧ (angF X Y).1 < 21600000 := by
  have h : ∀ T u v, (ang1 T u v).1 = T + (bisF u v 23 0 5400000 : Nat) := fun _ _ _ => rfl
  have hb : ∀ u v, bisF u v 23 0 5400000 < 5400000 := fun u v => bisF_lt (by decide)
  unfold angF
  split
  · rw [h]; have := hb X Y; omega
  · split
    · rw [h]; have := hb Y (-X); omega
    · split
      · rw [h]; have := hb (-X) (-Y); omega
      · rw [h]; have := hb (-Y) X; omega
def fstC (x0 x1 y0 y1 : Int) : Nat → Int × Int
  | 0 => (x0, y0)
  | i + 1 => if befB (crX x0 x1 i) (crY y0 y1 i) (fstC x0 x1 y0 y1 i).1 (fstC x0 x1 y0 y1 i).2 = true then (crX x0 x1 i, crY y0 y1 i) else fstC x0 x1 y0 y1 i
def lstC (x0 x1 y0 y1 : Int) : Nat → Int × Int
  | 0 => (x0, y0)
  | i + 1 => if befB (lstC x0 x1 y0 y1 i).1 (lstC x0 x1 y0 y1 i).2 (crX x0 x1 i) (crY y0 y1 i) = true then (crX x0 x1 i, crY y0 y1 i) else lstC x0 x1 y0 y1 i
def oriB (x0 x1 y0 y1 : Int) : Prop := x0 ≤ 0 ∧ 0 ≤ x1 ∧ y0 ≤ 0 ∧ 0 ≤ y1
instance (x0 x1 y0 y1 : Int) : Decidable (oriB x0 x1 y0 y1) := by unfold oriB; infer_instance
def brG (a c : Int × Int) : Int × Int := ((angF a.1 a.2).1, (if (angF c.1 c.2).1 < (angF a.1 a.2).1 then (angF c.1 c.2).1 + 21600000 else (angF c.1 c.2).1) + (if (angF c.1 c.2).2 = true then 0 else 1))
def brF (x0 x1 y0 y1 : Int) : Int × Int := if oriB x0 x1 y0 y1 then (0, 21600000) else brG (fstC x0 x1 y0 y1 4) (lstC x0 x1 y0 y1 4)
theorem brF_bd (x0 x1 y0 y1 : Int) : 0 ≤ (brF x0 x1 y0 y1).1 ∧ (brF x0 x1 y0 y1).1 ≤ (brF x0 x1 y0 y1).2 ∧ (brF x0 x1 y0 y1).2 ≤ 43200000 := by
  unfold brF
  split
  · exact ⟨by decide, by decide, by decide⟩
  · unfold brG
    obtain ⟨h0, h1⟩ := angF_bd (fstC x0 x1 y0 y1 4).1 (fstC x0 x1 y0 y1 4).2
    obtain ⟨h2, h3⟩ := angF_bd (lstC x0 x1 y0 y1 4).1 (lstC x0 x1 y0 y1 4).2
    dsimp only
    refine ⟨h0, ?_, ?_⟩ <;> (split <;> split <;> omega)
structure BoxF (x0 x1 y0 y1 : Int) (i : Nat) (a b c d : Int) : Prop where
  i4 : i ≤ 4
  f : fstC x0 x1 y0 y1 i = (a, b)
  l : lstC x0 x1 y0 y1 i = (c, d)
theorem BoxF.start {x0 x1 y0 y1 : Int} : BoxF x0 x1 y0 y1 0 x0 y0 x0 y0 := ⟨by decide, rfl, rfl⟩
theorem BoxF.step {x0 x1 y0 y1 : Int} {i : Nat} {a b c d p q : Int} (h : BoxF x0 x1 y0 y1 i a b c d) (hi : i < 4) (hp : p = crX x0 x1 i) (hq : q = crY y0 y1 i) :
    BoxF x0 x1 y0 y1 (i + 1) (if befB p q a b = true then p else a) (if befB p q a b = true then q else b) (if befB c d p q = true then p else c) (if befB c d p q = true then q else d) := by
  refine ⟨by omega, ?_, ?_⟩
  · show (if _ then _ else _) = _
    rw [h.f, ← hp, ← hq]
    dsimp only
    split <;> rfl
  · show (if _ then _ else _) = _
    rw [h.l, ← hp, ← hq]
    dsimp only
    split <;> rfl
theorem fst_cor (x0 x1 y0 y1 : Int) : ∀ i, ∃ j, fstC x0 x1 y0 y1 i = (crX x0 x1 j, crY y0 y1 j)
  | 0 => ⟨0, rfl⟩
  | i + 1 => by
    unfold fstC
    split
    · exact ⟨i, rfl⟩
    · exact fst_cor x0 x1 y0 y1 i
theorem lst_cor (x0 x1 y0 y1 : Int) : ∀ i, ∃ j, lstC x0 x1 y0 y1 i = (crX x0 x1 j, crY y0 y1 j)
  | 0 => ⟨0, rfl⟩
  | i + 1 => by
    unfold lstC
    split
    · exact ⟨i, rfl⟩
    · exact lst_cor x0 x1 y0 y1 i
theorem crX_bd {x0 x1 : Int} (h0 : Bd31 x0) (h1 : Bd31 x1) (j : Nat) : Bd31 (crX x0 x1 j) := by unfold crX; split <;> assumption
theorem crY_bd {y0 y1 : Int} (h0 : Bd31 y0) (h1 : Bd31 y1) (j : Nat) : Bd31 (crY y0 y1 j) := by unfold crY; split <;> assumption
theorem cor_ne {x0 x1 y0 y1 : Int} (hx : x0 ≤ x1) (hy : y0 ≤ y1) (hn : ¬ oriB x0 x1 y0 y1) (j : Nat) : ¬ (crX x0 x1 j = 0 ∧ crY y0 y1 j = 0) := by
  rintro ⟨h1, h2⟩
  apply hn
  unfold crX at h1
  unfold crY at h2
  unfold oriB
  split at h1 <;> split at h2 <;> omega
theorem BoxF.bds {x0 x1 y0 y1 : Int} {i : Nat} {a b c d : Int} (h : BoxF x0 x1 y0 y1 i a b c d) (hX0 : Bd31 x0) (hX1 : Bd31 x1) (hY0 : Bd31 y0) (hY1 : Bd31 y1) (hn : x0 ≤ x1 ∧ y0 ≤ y1 ∧ ¬ oriB x0 x1 y0 y1) :
    Bd31 a ∧ Bd31 b ∧ Bd31 c ∧ Bd31 d ∧ ¬ (a = 0 ∧ b = 0) ∧ ¬ (c = 0 ∧ d = 0) := by
  obtain ⟨j, hj⟩ := fst_cor x0 x1 y0 y1 i
  obtain ⟨k, hk⟩ := lst_cor x0 x1 y0 y1 i
  rw [h.f, Prod.mk.injEq] at hj
  rw [h.l, Prod.mk.injEq] at hk
  obtain ⟨rfl, rfl⟩ := hj
  obtain ⟨rfl, rfl⟩ := hk
  exact ⟨crX_bd hX0 hX1 _, crY_bd hY0 hY1 _, crX_bd hX0 hX1 _, crY_bd hY0 hY1 _, cor_ne hn.1 hn.2.1 hn.2.2 _, cor_ne hn.1 hn.2.1 hn.2.2 _⟩
theorem BoxF.res {x0 x1 y0 y1 a b c d : Int} (h : BoxF x0 x1 y0 y1 4 a b c d) (hn : x0 ≤ x1 ∧ y0 ≤ y1 ∧ ¬ oriB x0 x1 y0 y1) :
    brF x0 x1 y0 y1 = ((angF a b).1, (if (angF c d).1 < (angF a b).1 then (angF c d).1 + 21600000 else (angF c d).1) + (if (angF c d).2 = true then 0 else 1)) := by
  unfold brF
  rw [if_neg hn.2.2, h.f, h.l]
  rfl
end Go.Proofs.YtnnmfdeeicpdlaaGreat
/- arctrig: angle, as a function, for any point but the origin. -/
namespace Go.Proofs.YtnnmfdeeicpdlaaGreat
open Go.RowKit

set_option maxHeartbeats 4000000 in
set_option maxRecDepth 100000 in
theorem ar_angF0 (u v : Nat) (hu0 : 0 < u) (hu : u ≤ 2147483648) (hv : v ≤ 2147483648) (w : World) :
    Calls Tryz.prog 118 #[.agg #[.int .i64 (u : Int), .int .i64 (v : Int)]] w fun e w' => ∃ (k : Nat) (ex : Bool) (d : Ext), e = .returned (.tuple #[.int .i64 (k : Int), .bool ex]) ∧ AngF u v k ex ∧ w' = bw w d := by
  have a1 : (0 : Int) < (u : Int) := by omega
  have a2 : (0 : Int) ≤ (v : Int) := by omega
  refine lay_start ?_
  go_enter Tryz.func118, Tryz.ntmps118
  go_wp2_with fail
  go_loopw [4] (fun v4 wr => v4 = .int .i64 0 ∧ wr = lay w [.inl (.cells #[.int .i64 (u : Int), .int .i64 (v : Int)] 164 (0, 0))]) (fun _ _ => 0)
  case atStart => exact ⟨rfl, rfl⟩
  case round =>
    obtain ⟨rfl, rfl⟩ := hrel
    go_wp2_with fail
    go_loopw [5, 6] (fun v5 v6 wr => ∃ (l h : Nat) (dd : Ext), v5 = .int .i64 (l : Int) ∧ v6 = .int .i64 (h : Int) ∧ wr = lay w (.inr dd :: [.inl (.cells #[.int .i64 (u : Int), .int .i64 (v : Int)] 164 (0, 0))]) ∧ l < h ∧ h ≤ 5400000 ∧ ∃ f, h - l ≤ 2 ^ f ∧ bisF (u : Int) (v : Int) f l h = bisF (u : Int) (v : Int) 23 0 5400000) (fun v5 v6 _ => (intOf v6 - intOf v5).toNat)
    case atStart => exact ⟨0, 5400000, noExt _, rfl, rfl, (bw_noExt _).symm, by decide, by decide, 23, by decide, rfl⟩
    case round =>
      obtain ⟨l, h, dd, rfl, rfl, rfl, hlh, hh, f, hA, hB⟩ := hrel
      have HA := Lib.hid hA
      have HB2 := Lib.hid hB
      clear hA hB
      have k1 : IntKind.i64.wrap ((h : Int) - (l : Int)) = (h : Int) - (l : Int) := IntWalk.i64_in _ (by omega)
      by_cases c : (1 : Int) < (h : Int) - (l : Int)
      · obtain ⟨XQ, hXQ⟩ : ∃ XQ : Int, (l : Int) + (h : Int) = XQ := ⟨_, rfl⟩
        obtain ⟨m, hm⟩ : ∃ m : Nat, XQ.tdiv 2 = (m : Int) := ⟨(XQ.tdiv 2).toNat, by rw [Int.tdiv_eq_ediv_of_nonneg (by omega)]; omega⟩
        have k2 : IntKind.i64.wrap ((l : Int) + (h : Int)) = XQ := by rw [hXQ]; exact IntWalk.i64_in _ (by omega)
        have hmid : m = (l + h) / 2 := by rw [Int.tdiv_eq_ediv_of_nonneg (by omega)] at hm; omega
        obtain ⟨f', hf0, hf1⟩ := bisF_step (u := (u : Int)) (v := (v : Int)) hmid (by omega) HA.out
        rw [HB2.out] at hf0 hf1
        have HF0 := Lib.hid hf0
        have HF1 := Lib.hid hf1
        clear hmid hf0 hf1
        have hml : l < m ∧ m < h := by rw [Int.tdiv_eq_ediv_of_nonneg (by omega)] at hm; omega
        have k3 : IntKind.i64.wrap (m : Int) = (m : Int) := IntWalk.i64_in _ (by omega)
        have HBm := Lib.hid (fun W => ar_reaches u v m (by omega) (by omega) (by omega) W)
        have HLH := Lib.hid (And.intro hlh (And.intro hh hml))
        clear hXQ hlh hh hml
        cases cb : rchB (u : Int) (v : Int) m
        · rw [cb] at HBm
          have HC := Lib.hid cb
          clear cb
          go_wp2_with (go_at_call 195; refine (HBm.out _).mono ?_; rintro e w' ⟨rfl, d1, rfl⟩; rw [lay_bw])
          obtain ⟨g1, g2, g3, g4⟩ := HLH.out
          obtain ⟨de, hde⟩ := lay_fold w [.inr d1, .inr dd] [.inl (.cells #[.int .i64 (u : Int), .int .i64 (v : Int)] 164 (0, 0))]
          exact ⟨⟨_, _, de, rfl, rfl, hde, by omega, by omega, f', (HF0.out HC.out).1, (HF0.out HC.out).2⟩, by simp only [intOf]; omega⟩
        · rw [cb] at HBm
          have HC := Lib.hid cb
          clear cb
          go_wp2_with (go_at_call 195; refine (HBm.out _).mono ?_; rintro e w' ⟨rfl, d1, rfl⟩; rw [lay_bw])
          obtain ⟨g1, g2, g3, g4⟩ := HLH.out
          obtain ⟨de, hde⟩ := lay_fold w [.inr d1, .inr dd] [.inl (.cells #[.int .i64 (u : Int), .int .i64 (v : Int)] 164 (0, 0))]
          exact ⟨⟨_, _, de, rfl, rfl, hde, by omega, by omega, f', (HF1.out HC.out).1, (HF1.out HC.out).2⟩, by simp only [intOf]; omega⟩
      · have hhl : h = l + 1 := by omega
        have kT : IntKind.i64.wrap (0 + (l : Int)) = 0 + (l : Int) := IntWalk.i64_in _ (by omega)
        subst hhl
        have HAng : ∀ ex, ex = (decide (l = 0 ∧ (v : Int) = 0) || decide (l = 2700000 ∧ (u : Int) = (v : Int))) → AngF (u : Int) (v : Int) l ex := fun ex h => ⟨by omega, by have := HB2.out; rw [bisF_end] at this; exact this, h⟩
        have HAng := Lib.hid HAng
        have HL := Lib.hid (And.intro hlh hh)
        clear hlh hh HA HB2
        have kT0 : IntKind.i64.wrap (l : Int) = (l : Int) := by simpa using kT
        by_cases c1 : (l : Int) = 0
        · have n1 : ¬ (l : Int) = 2700000 := by omega
          have n2 : ¬ l = 2700000 := by omega
          by_cases c2 : (v : Int) = 0
          · have N : Hid (l = 0 ∧ (v : Int) = 0 ∧ ¬ l = 2700000 ∧ True) := Lib.hid ⟨by omega, c2, n2, trivial⟩
            go_wp2_with fail
            refine region_mixS 22 [(0, 0), (1, 0), (2, 0), (3, 0), (4, 0), (5, 0), (6, 0), (7, 0), (8, 0), (9, 0), (10, 0), (11, 0), (12, 0), (13, 0), (14, 0), (15, 0), (16, 0), (17, 0), (18, 0), (19, 0), (20, 0), (21, 0), (22, 3)] (by kernel_rfl) (by kernel_rfl) (by kernel_rfl) rfl ?_
            iterate 22 (refine wpMS_quiet rfl (fun K hK => ?_); go_simp; refine hK _ ?_; clear hK K)
            refine wpMS_store rfl (fun K hK e1 => ?_)
            rw [lay_bw]
            go_simp
            refine hK _ _ ?_
            clear hK K
            refine wpMS_nil (fun e2 => ?_)
            rw [lay_bw]
            go_wp2_with fail
            refine bodyPost_ret (v := .tuple #[.int .i64 0, .bool true]) (by simp [results, Tryz.results118, go_sem] <;> first | done | decide | exact kT0 | omega | (refine ⟨by first | decide | exact kT0, by omega⟩)) rfl ?_
            exact ⟨l, true, _, by first | rfl | (rw [c1]; done) | (rw [c1]; rfl) | (rw [c1]; simp), HAng.out _ (by have := N.out; simp_all <;> omega), (lay_ex _ _).choose_spec⟩
          · have c3 : ¬ v = 0 := by omega
            have N : Hid (l = 0 ∧ ¬ (v : Int) = 0 ∧ ¬ l = 2700000 ∧ True) := Lib.hid ⟨by omega, c2, n2, trivial⟩
            go_wp2_with fail
            refine region_mixS 22 [(0, 0), (1, 0), (2, 0), (3, 0), (4, 0), (5, 0), (6, 0), (7, 0), (8, 0), (9, 0), (10, 0), (11, 0), (12, 0), (13, 0), (14, 0), (15, 0), (16, 0), (17, 0), (18, 0), (19, 0), (20, 0), (21, 0), (22, 3)] (by kernel_rfl) (by kernel_rfl) (by kernel_rfl) rfl ?_
            iterate 22 (refine wpMS_quiet rfl (fun K hK => ?_); go_simp; refine hK _ ?_; clear hK K)
            refine wpMS_store rfl (fun K hK e1 => ?_)
            rw [lay_bw]
            go_simp
            refine hK _ _ ?_
            clear hK K
            refine wpMS_nil (fun e2 => ?_)
            rw [lay_bw]
            go_wp2_with fail
            refine bodyPost_ret (v := .tuple #[.int .i64 0, .bool false]) (by simp [results, Tryz.results118, go_sem] <;> first | done | decide | exact kT0 | omega | (refine ⟨by first | decide | exact kT0, by omega⟩)) rfl ?_
            exact ⟨l, false, _, by first | rfl | (rw [c1]; done) | (rw [c1]; rfl) | (rw [c1]; simp), HAng.out _ (by have := N.out; simp_all <;> omega), (lay_ex _ _).choose_spec⟩
        · have n1 : ¬ l = 0 := by omega
          by_cases c2 : l = 2700000
          · subst c2
            by_cases c3 : u = v
            · have c4 : (u : Int) = (v : Int) := by omega
              have N : Hid (True ∧ True ∧ True ∧ (u : Int) = (v : Int)) := Lib.hid ⟨trivial, trivial, trivial, c4⟩
              go_wp2_with fail
              refine region_mixS 22 [(0, 0), (1, 0), (2, 0), (3, 0), (4, 0), (5, 0), (6, 0), (7, 0), (8, 0), (9, 0), (10, 0), (11, 0), (12, 0), (13, 0), (14, 0), (15, 0), (16, 0), (17, 0), (18, 0), (19, 0), (20, 0), (21, 0), (22, 3)] (by kernel_rfl) (by kernel_rfl) (by kernel_rfl) rfl ?_
              iterate 22 (refine wpMS_quiet rfl (fun K hK => ?_); go_simp; refine hK _ ?_; clear hK K)
              refine wpMS_store rfl (fun K hK e1 => ?_)
              rw [lay_bw]
              go_simp
              refine hK _ _ ?_
              clear hK K
              refine wpMS_nil (fun e2 => ?_)
              rw [lay_bw]
              go_wp2_with fail
              refine bodyPost_ret (v := .tuple #[.int .i64 (0 + 2700000), .bool true]) (by simp [results, Tryz.results118, go_sem] <;> first | done | decide | exact kT0 | omega | (refine ⟨by first | decide | exact kT0, by omega⟩)) rfl ?_
              exact ⟨2700000, true, _, by first | rfl | (rw [c1]; done) | (rw [c1]; rfl) | (rw [c1]; simp), HAng.out _ (by have := N.out; simp_all <;> omega), (lay_ex _ _).choose_spec⟩
            · have c4 : ¬ (u : Int) = (v : Int) := by omega
              have N : Hid (True ∧ True ∧ True ∧ ¬ (u : Int) = (v : Int)) := Lib.hid ⟨trivial, trivial, trivial, c4⟩
              go_wp2_with fail
              refine region_mixS 22 [(0, 0), (1, 0), (2, 0), (3, 0), (4, 0), (5, 0), (6, 0), (7, 0), (8, 0), (9, 0), (10, 0), (11, 0), (12, 0), (13, 0), (14, 0), (15, 0), (16, 0), (17, 0), (18, 0), (19, 0), (20, 0), (21, 0), (22, 3)] (by kernel_rfl) (by kernel_rfl) (by kernel_rfl) rfl ?_
              iterate 22 (refine wpMS_quiet rfl (fun K hK => ?_); go_simp; refine hK _ ?_; clear hK K)
              refine wpMS_store rfl (fun K hK e1 => ?_)
              rw [lay_bw]
              go_simp
              refine hK _ _ ?_
              clear hK K
              refine wpMS_nil (fun e2 => ?_)
              rw [lay_bw]
              go_wp2_with fail
              refine bodyPost_ret (v := .tuple #[.int .i64 (0 + 2700000), .bool false]) (by simp [results, Tryz.results118, go_sem] <;> first | done | decide | exact kT0 | omega | (refine ⟨by first | decide | exact kT0, by omega⟩)) rfl ?_
              exact ⟨2700000, false, _, by first | rfl | (rw [c1]; done) | (rw [c1]; rfl) | (rw [c1]; simp), HAng.out _ (by have := N.out; simp_all <;> omega), (lay_ex _ _).choose_spec⟩
          · have c3 : ¬ (l : Int) = 2700000 := by omega
            have N : Hid (¬ l = 0 ∧ True ∧ ¬ l = 2700000 ∧ True) := Lib.hid ⟨n1, trivial, c2, trivial⟩
            go_wp2_with fail
            refine region_mixS 22 [(0, 0), (1, 0), (2, 0), (3, 0), (4, 0), (5, 0), (6, 0), (7, 0), (8, 0), (9, 0), (10, 0), (11, 0), (12, 0), (13, 0), (14, 0), (15, 0), (16, 0), (17, 0), (18, 0), (19, 0), (20, 0), (21, 0), (22, 3)] (by kernel_rfl) (by kernel_rfl) (by kernel_rfl) rfl ?_
            iterate 22 (refine wpMS_quiet rfl (fun K hK => ?_); go_simp; refine hK _ ?_; clear hK K)
            refine wpMS_store rfl (fun K hK e1 => ?_)
            rw [lay_bw]
            go_simp
            refine hK _ _ ?_
            clear hK K
            refine wpMS_nil (fun e2 => ?_)
            rw [lay_bw]
            go_wp2_with fail
            refine bodyPost_ret (v := .tuple #[.int .i64 (l : Int), .bool false]) (by simp [results, Tryz.results118, go_sem] <;> first | done | decide | exact kT0 | omega | (refine ⟨by first | decide | exact kT0, by omega⟩)) rfl ?_
            exact ⟨l, false, _, by first | rfl | (rw [c1]; done) | (rw [c1]; rfl) | (rw [c1]; simp), HAng.out _ (by have := N.out; simp_all <;> omega), (lay_ex _ _).choose_spec⟩
end Go.Proofs.YtnnmfdeeicpdlaaGreat
