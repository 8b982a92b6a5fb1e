/- Contracts and plain laws, several texts in one: Qn6; FxS; Chn; Sta4 -/
import Derived.Test.YtkhhdpndcidmgaaGreatProg
import Derived.WalkKit
import Derived.WalkSpells
import Derived.WalkLawsBesides
import Derived.Lib.Hide
import Derived.BigQuiet
import Derived.Test.YtkhhdpndcidmgaaGreatTAE
import Derived.Test.YtkhhdpndcidmgaaGreatTAF
import Derived.Test.YtkhhdpndcidmgaaGreatTAI
import Derived.Test.YtkhhdpndcidmgaaGreatTAJ
import Derived.Test.YtkhhdpndcidmgaaGreatTAP
import Derived.Test.YtkhhdpndcidmgaaGreatTAS
import Derived.Test.YtkhhdpndcidmgaaGreatTAY
/- arctrig: circle. -/
namespace Go.Proofs.YtkhhdpndcidmgaaGreat
set_option maxHeartbeats 4000000
set_option maxRecDepth 100000
open Go.RowKit

theorem piA_small {k : Nat} (hk : k ≤ 2700000) : k * piA < 18446744073709551616 ^ 4 := by
  have h1 := Nat.mul_le_mul_right piA hk
  have h2 : 2700000 * piA < 18446744073709551616 ^ 4 := by decide +kernel
  omega
theorem one192 : Wd 4 [1, 0, 0, 0] ∧ val4 [1, 0, 0, 0] = m192 := ⟨⟨rfl, fun i => by
  unfold nt
  rcases i with _ | _ | _ | _ | i <;> simp [List.getD]⟩, by decide +kernel⟩
theorem times_small {v t P : Nat} (h : v + t * 18446744073709551616 ^ 4 = P) (hP : P < 18446744073709551616 ^ 4) : v = P := by
  rcases Nat.eq_zero_or_pos t with g | g
  · subst g; omega
  · have := Nat.mul_le_mul_right (18446744073709551616 ^ 4) g
    omega
theorem region_mixSC {P : Program} {κ : Type} {id : Nat} {Q : Exit → Act → World → Prop} {a : Act} {w : World} {l : List Oper} (st : Nat) (s : List (Nat × Nat)) (Cl : κ → World) (hCl : ∀ k d, ∃ k', bw (Cl k) d = Cl k') (hw : ∃ k, w = Cl k) (hm : P.follows .mixedOrders = true) (hsel : Region.noSelect l.toArray = true)
    (hB : lexMS .any l.toArray st s (Array.replicate l.toArray.size false) = true) (hn : s.length = l.toArray.size)
    (h : wpMS P l l.toArray Cl (fun a w => Q .normal a w) s a w) : (Code.region id l.toArray true).wp P Q a w := by
  refine wp_region_any hm ?_
  have := wpD_of_wpMS (md := .any) (st := st) hCl (fun j => by simp) hsel s _ a w (.inr hw) hB h
  have := wpD_ext (⟨#[], w.drawn + 1⟩ : Ext) this
  rw [← bw_drewExt] at this
  have := wpD_sound (Q' := Q) _ _ _ _ this
  rwa [hn] at this
@[go_sem] def clC (w : World) (d1 d2 d3 d4 : Ext) (r2 r3 : List Nat) (p : Array Value × Ext) : World := lay w [.inr p.2, .inl (.cells #[.int .u64 (nt r3 0 : Int), .int .u64 (nt r3 1 : Int), .int .u64 (nt r3 2 : Int), .int .u64 (nt r3 3 : Int)] 166 (0, 0)), .inr d4, .inl (.cells #[.int .u64 (nt r2 0 : Int), .int .u64 (nt r2 1 : Int), .int .u64 (nt r2 2 : Int), .int .u64 (nt r2 3 : Int)] 166 (0, 0)), .inr d3, .inr d2, .inr d1, .inl (.cells #[.int .u64 0, .int .u64 0, .int .u64 0, .int .u64 0] 166 (0, 0)), .inl (.cells p.1 166 (0, 0))]
theorem clC_ext (w : World) (d1 d2 d3 d4 : Ext) (r2 r3 : List Nat) (p : Array Value × Ext) (d : Ext) : ∃ p', bw (clC w d1 d2 d3 d4 r2 r3 p) d = clC w d1 d2 d3 d4 r2 r3 p' := by
  obtain ⟨e, he⟩ := lay_fold w [.inr d, .inr p.2] [.inl (.cells #[.int .u64 (nt r3 0 : Int), .int .u64 (nt r3 1 : Int), .int .u64 (nt r3 2 : Int), .int .u64 (nt r3 3 : Int)] 166 (0, 0)), .inr d4, .inl (.cells #[.int .u64 (nt r2 0 : Int), .int .u64 (nt r2 1 : Int), .int .u64 (nt r2 2 : Int), .int .u64 (nt r2 3 : Int)] 166 (0, 0)), .inr d3, .inr d2, .inr d1, .inl (.cells #[.int .u64 0, .int .u64 0, .int .u64 0, .int .u64 0] 166 (0, 0)), .inl (.cells p.1 166 (0, 0))]
  exact ⟨(p.1, e), he⟩
theorem ar_circle0 (k : Nat) (hk : k ≤ 2700000) (w : World) :
    Calls Tryz.prog 139 #[.int .i64 (k : Int)] w fun e w' => ∃ s c d, e = .returned (.tuple #[nuV s, nuV c]) ∧ w' = bw w d ∧ Wd 4 s ∧ Wd 4 c ∧ (val4 s : Int) = sinA k ∧ (val4 c : Int) = cosA k := by
  have g1 : ¬ (2700000 : Int) < (k : Int) := by omega
  have g2 : ¬ 2700000 < k := by omega
  have kk : IntKind.u64.wrap (k : Int) = (k : Int) := IntWalk.u64_in _ (by omega)
  obtain ⟨h1, h2, h3, h4⟩ := sqA_near hk
  have HPi := Lib.hid (fun W => ar_pi W)
  unfold nuV at *
  refine lay_start ?_
  go_enter Tryz.func139, Tryz.ntmps139
  go_wp2_with (go_at_call 176; refine (HPi.out _).mono ?_; rintro e w' ⟨rfl, d1, rfl⟩; rw [lay_bw])
  have HT := qn_times piAL k piAL_wd (by omega)
  unfold nuV at HT
  refine (HT _).mono ?_
  rintro e w' ⟨r1, d2, rfl, rfl, hw1, t, ht⟩
  rw [piAL_val] at ht
  have ht2 := times_small ht (piA_small hk)
  rw [lay_bw]
  go_wp2_with fail
  have HO := qn_over r1 10800000 hw1 (by decide) (by decide)
  unfold nuV at HO
  refine (HO _).mono ?_
  rintro e w' ⟨r2, d3, rfl, rfl, hw2, hv2⟩
  rw [ht2] at hv2
  rw [lay_bw]
  have HW := Lib.hid (And.intro hw2 (show val4 r2 = tA k from hv2))
  clear hw1 hw2 hv2 ht ht2 t
  have HM := qn_mul r2 r2 HW.out.1 HW.out.1 (by
    rw [HW.out.2]
    have h5 := Nat.mul_le_mul h2 h2
    have h6 : m192 * m192 < 18446744073709551616 ^ 7 := by decide +kernel
    omega)
  unfold nuV at HM
  go_wp2_with fail
  refine (HM _).mono ?_
  rintro e w' ⟨r3, d4, rfl, rfl, hw3, hv3⟩
  have hv4 : val4 r3 = sqA k := by rw [hv3, HW.out.2, ← m192_pow]; rfl
  rw [lay_bw]
  have HS1 := Lib.hid (fun W => ar_series r2 r3 1 HW.out.1 hw3 (by rw [HW.out.2]; exact h2) (by rw [hv4]; exact h1) (by decide) W)
  have HS2 := Lib.hid (fun W => ar_series [1, 0, 0, 0] r3 0 one192.1 hw3 (by rw [one192.2]; exact Nat.le_refl _) (by rw [hv4]; exact h1) (by decide) W)
  rw [HW.out.2, hv4] at HS1
  rw [one192.2, hv4] at HS2
  unfold nuV at HS1 HS2
  rw [show ((1 : Nat) : Int) = 1 from rfl] at HS1
  rw [show ((0 : Nat) : Int) = 0 from rfl, show nt [1, 0, 0, 0] 0 = 1 from rfl, show nt [1, 0, 0, 0] 1 = 0 from rfl, show nt [1, 0, 0, 0] 2 = 0 from rfl, show nt [1, 0, 0, 0] 3 = 0 from rfl, show ((1 : Nat) : Int) = 1 from rfl, show ((0 : Nat) : Int) = 0 from rfl] at HS2
  clear hw3 hv3 hv4 HM HO HT HPi h1 h2 h3 h4
  go_wp2_with fail
  refine region_mixSC 7 [(0, 0), (1, 0), (3, 0), (4, 0), (2, 1), (5, 1), (6, 1), (7, 3)] (clC w d1 d2 d3 d4 r2 r3) (clC_ext w d1 d2 d3 d4 r2 r3) ⟨(#[.int .u64 0, .int .u64 0, .int .u64 0, .int .u64 0], noExt (lay w [.inl (.cells #[.int .u64 (nt r3 0 : Int), .int .u64 (nt r3 1 : Int), .int .u64 (nt r3 2 : Int), .int .u64 (nt r3 3 : Int)] 166 (0, 0)), .inr d4, .inl (.cells #[.int .u64 (nt r2 0 : Int), .int .u64 (nt r2 1 : Int), .int .u64 (nt r2 2 : Int), .int .u64 (nt r2 3 : Int)] 166 (0, 0)), .inr d3, .inr d2, .inr d1, .inl (.cells #[.int .u64 0, .int .u64 0, .int .u64 0, .int .u64 0] 166 (0, 0)), .inl (.cells #[.int .u64 0, .int .u64 0, .int .u64 0, .int .u64 0] 166 (0, 0))])), (bw_noExt (lay w [.inl (.cells #[.int .u64 (nt r3 0 : Int), .int .u64 (nt r3 1 : Int), .int .u64 (nt r3 2 : Int), .int .u64 (nt r3 3 : Int)] 166 (0, 0)), .inr d4, .inl (.cells #[.int .u64 (nt r2 0 : Int), .int .u64 (nt r2 1 : Int), .int .u64 (nt r2 2 : Int), .int .u64 (nt r2 3 : Int)] 166 (0, 0)), .inr d3, .inr d2, .inr d1, .inl (.cells #[.int .u64 0, .int .u64 0, .int .u64 0, .int .u64 0] 166 (0, 0)), .inl (.cells #[.int .u64 0, .int .u64 0, .int .u64 0, .int .u64 0] 166 (0, 0))])).symm⟩ (by kernel_rfl) (by kernel_rfl) (by kernel_rfl) rfl ?_
  repeat (refine wpMS_quiet rfl (fun K hK => ?_); go_simp; (first | (refine hK _ ?_; clear hK K) | (apply Exists.intro; refine ⟨fun p => ?_, hK _ ?_⟩; (rcases p with ⟨p1, p2⟩; fail); clear hK K)))
  refine wpMS_special rfl (fun K hK e1 => ?_)
  rw [lay_bw]
  go_simp
  refine (HS1.out _).mono ?_
  rintro e w' ⟨s1, f1, rfl, rfl, hs1, hs2⟩
  have HA := Lib.hid (And.intro hs1 hs2)
  clear hs1 hs2 HS1
  refine ⟨_, rfl, hK _ _ ⟨(_, _), (lay_fold w [.inr f1, .inr e1] [.inl (.cells #[.int .u64 (nt r3 0 : Int), .int .u64 (nt r3 1 : Int), .int .u64 (nt r3 2 : Int), .int .u64 (nt r3 3 : Int)] 166 (0, 0)), .inr d4, .inl (.cells #[.int .u64 (nt r2 0 : Int), .int .u64 (nt r2 1 : Int), .int .u64 (nt r2 2 : Int), .int .u64 (nt r2 3 : Int)] 166 (0, 0)), .inr d3, .inr d2, .inr d1, .inl (.cells #[.int .u64 0, .int .u64 0, .int .u64 0, .int .u64 0] 166 (0, 0)), .inl (.cells #[.int .u64 0, .int .u64 0, .int .u64 0, .int .u64 0] 166 (0, 0))]).choose_spec⟩ ?_⟩
  clear hK K
  refine wpMS_special rfl (fun K hK e2 => ?_)
  rw [lay_bw, lay_bw]
  go_simp
  refine (HS2.out _).mono ?_
  rintro e w' ⟨s2, f2, rfl, rfl, hs1, hs2⟩
  have HB := Lib.hid (And.intro hs1 hs2)
  clear hs1 hs2 HS2
  refine ⟨_, rfl, hK _ _ ⟨(_, _), (lay_fold w [.inr f2, .inr e2, .inr f1, .inr e1] [.inl (.cells #[.int .u64 (nt r3 0 : Int), .int .u64 (nt r3 1 : Int), .int .u64 (nt r3 2 : Int), .int .u64 (nt r3 3 : Int)] 166 (0, 0)), .inr d4, .inl (.cells #[.int .u64 (nt r2 0 : Int), .int .u64 (nt r2 1 : Int), .int .u64 (nt r2 2 : Int), .int .u64 (nt r2 3 : Int)] 166 (0, 0)), .inr d3, .inr d2, .inr d1, .inl (.cells #[.int .u64 0, .int .u64 0, .int .u64 0, .int .u64 0] 166 (0, 0)), .inl (.cells #[.int .u64 0, .int .u64 0, .int .u64 0, .int .u64 0] 166 (0, 0))]).choose_spec⟩ ?_⟩
  clear hK K
  refine wpMS_special rfl (fun K hK e3 => ?_)
  rw [lay_bw, lay_bw]
  go_simp
  refine hK _ _ ⟨(_, _), (lay_fold w [.inr e3, .inr f2, .inr e2, .inr f1, .inr e1] [.inl (.cells #[.int .u64 (nt r3 0 : Int), .int .u64 (nt r3 1 : Int), .int .u64 (nt r3 2 : Int), .int .u64 (nt r3 3 : Int)] 166 (0, 0)), .inr d4, .inl (.cells #[.int .u64 (nt r2 0 : Int), .int .u64 (nt r2 1 : Int), .int .u64 (nt r2 2 : Int), .int .u64 (nt r2 3 : Int)] 166 (0, 0)), .inr d3, .inr d2, .inr d1, .inl (.cells #[.int .u64 0, .int .u64 0, .int .u64 0, .int .u64 0] 166 (0, 0)), .inl (.cells #[.int .u64 (nt s1 0 : Int), .int .u64 (nt s1 1 : Int), .int .u64 (nt s1 2 : Int), .int .u64 (nt s1 3 : Int)] 166 (0, 0))]).choose_spec⟩ ?_
  clear hK K
  refine wpMS_store rfl (fun K hK e4 => ?_)
  rw [lay_bw]
  go_simp
  refine hK _ _ ?_
  clear hK K
  refine wpMS_nil (fun e5 => ?_)
  rw [lay_bw]
  go_wp2_with fail
  obtain ⟨dz, ez⟩ := lay_all w [.inr e5, .inr e4, .inr e3, .inr f2, .inr e2, .inr f1, .inr e1, .inl (.cells #[.int .u64 (nt r3 0 : Int), .int .u64 (nt r3 1 : Int), .int .u64 (nt r3 2 : Int), .int .u64 (nt r3 3 : Int)] 166 (0, 0)), .inr d4, .inl (.cells #[.int .u64 (nt r2 0 : Int), .int .u64 (nt r2 1 : Int), .int .u64 (nt r2 2 : Int), .int .u64 (nt r2 3 : Int)] 166 (0, 0)), .inr d3, .inr d2, .inr d1, .inl (.cells #[.int .u64 (nt s2 0 : Int), .int .u64 (nt s2 1 : Int), .int .u64 (nt s2 2 : Int), .int .u64 (nt s2 3 : Int)] 166 (0, 0)), .inl (.cells #[.int .u64 (nt s1 0 : Int), .int .u64 (nt s1 1 : Int), .int .u64 (nt s1 2 : Int), .int .u64 (nt s1 3 : Int)] 166 (0, 0))]
  exact bodyPost_ret (v := .tuple #[.agg #[.int .u64 (nt s1 0 : Int), .int .u64 (nt s1 1 : Int), .int .u64 (nt s1 2 : Int), .int .u64 (nt s1 3 : Int)], .agg #[.int .u64 (nt s2 0 : Int), .int .u64 (nt s2 1 : Int), .int .u64 (nt s2 2 : Int), .int .u64 (nt s2 3 : Int)]]) (by simp [results, Tryz.results139, go_sem]) rfl ⟨s1, s2, dz, rfl, ez, HA.out.1, HB.out.1, HA.out.2.symm, HB.out.2.symm⟩
theorem ar_circle (k : Nat) (hk : k ≤ 5400000) (w : World) :
    Calls Tryz.prog 139 #[.int .i64 (k : Int)] w fun e w' => ∃ s c d, e = .returned (.tuple #[nuV s, nuV c]) ∧ w' = bw w d ∧ Wd 4 s ∧ Wd 4 c ∧ (val4 s : Int) = siA k ∧ (val4 c : Int) = coA k := by
  unfold siA coA
  rcases Nat.lt_or_ge 2700000 k with g | g
  · rw [if_pos g, if_pos g]
    have g1 : (2700000 : Int) < (k : Int) := by omega
    have HC := Lib.hid (fun W => ar_circle0 (5400000 - k) (by omega) W)
    have kk : IntKind.i64.wrap (5400000 - (k : Int)) = ((5400000 - k : Nat) : Int) := by
      rw [show (5400000 - (k : Int)) = ((5400000 - k : Nat) : Int) by omega]
      exact IntWalk.i64_in _ (by omega)
    generalize 5400000 - k = k' at HC kk ⊢
    unfold nuV at *
    refine lay_start ?_
    go_enter Tryz.func139, Tryz.ntmps139
    go_wp2_with fail
    refine (HC.out _).mono ?_
    rintro e w' ⟨s1, c1, d1, rfl, rfl, h1, h2, h3, h4⟩
    rw [lay_bw]
    go_wp2_with fail
    go_region
    rw [bw_drewExt, lay_bw]
    go_wp2_with fail
    refine bodyPost_ret (v := .tuple #[.agg #[.int .u64 (nt c1 0 : Int), .int .u64 (nt c1 1 : Int), .int .u64 (nt c1 2 : Int), .int .u64 (nt c1 3 : Int)], .agg #[.int .u64 (nt s1 0 : Int), .int .u64 (nt s1 1 : Int), .int .u64 (nt s1 2 : Int), .int .u64 (nt s1 3 : Int)]]) (by simp [results, Tryz.results139, go_sem]) rfl ?_
    obtain ⟨dz, ez⟩ := lay_ex w [.inr ⟨#[], (lay w [.inr d1, .inl (.cells #[.int .u64 (nt s1 0 : Int), .int .u64 (nt s1 1 : Int), .int .u64 (nt s1 2 : Int), .int .u64 (nt s1 3 : Int)] 166 (0, 0)), .inl (.cells #[.int .u64 (nt c1 0 : Int), .int .u64 (nt c1 1 : Int), .int .u64 (nt c1 2 : Int), .int .u64 (nt c1 3 : Int)] 166 (0, 0))]).drawn + 1⟩, .inr d1, .inl (.cells #[.int .u64 (nt s1 0 : Int), .int .u64 (nt s1 1 : Int), .int .u64 (nt s1 2 : Int), .int .u64 (nt s1 3 : Int)] 166 (0, 0)), .inl (.cells #[.int .u64 (nt c1 0 : Int), .int .u64 (nt c1 1 : Int), .int .u64 (nt c1 2 : Int), .int .u64 (nt c1 3 : Int)] 166 (0, 0))]
    exact ⟨c1, s1, dz, rfl, ez, h2, h1, h4, h3⟩
  · rw [if_neg (by omega), if_neg (by omega)]
    exact ar_circle0 k g w
end Go.Proofs.YtkhhdpndcidmgaaGreat
/- fixed: Sub, Add, fit at any ends. -/
namespace Go.Proofs.YtkhhdpndcidmgaaGreat
set_option maxRecDepth 100000
open Go.RowKit

theorem fx_SubG (a0 a1 b0 b1 : Int) (w : World) (ha : fxB a0 a1 = true) (hb : fxB b0 b1 = true) (hm : fxB (a0 - b1) (a1 - b0) = true) :
    Calls Tryz.prog 30 #[(.agg #[.int .i64 (a0), .int .i64 (a1)]), (.agg #[.int .i64 (b0), .int .i64 (b1)])] w fun e w' => e = .returned (.tuple #[(.agg #[.int .i64 (a0 - b1), .int .i64 (a1 - b0)]), .int .i64 0]) ∧ ∃ d, w' = bw w d := by
  have HB := Lib.hid (fun W => fx_bothG a0 a1 b0 b1 W)
  rw [ha, hb, Bool.and_self] at HB
  have HT := Lib.hid (fun W => fx_fitG _ _ W hm)
  have hf := fxB_iff.1 hm
  have hfa := fxB_iff.1 ha
  have hfb := fxB_iff.1 hb
  have k1 : IntKind.i64.wrap (a0 - b1) = a0 - b1 := IntWalk.i64_in _ (by omega)
  have k2 : IntKind.i64.wrap (a1 - b0) = a1 - b0 := IntWalk.i64_in _ (by omega)
  clear hf hfa hfb ha hb hm
  refine lay_start ?_
  go_enter Tryz.func30, Tryz.ntmps30
  go_wp2_with (first | (go_at_call 36; refine (HB.out _).mono ?_; rintro e w' ⟨rfl, d, rfl⟩) | (go_at_call 37; refine (HT.out _).mono ?_; rintro e w' ⟨rfl, d1, rfl⟩))
  exact bodyPost_ret (v := .tuple #[(.agg #[.int .i64 (a0 - b1), .int .i64 (a1 - b0)]), .int .i64 0]) (by simp [results, Tryz.results30, go_sem]) rfl ⟨rfl, lay_ex _ _⟩
theorem fx_AddG (a0 a1 b0 b1 : Int) (w : World) (ha : fxB a0 a1 = true) (hb : fxB b0 b1 = true) (hm : fxB (a0 + b0) (a1 + b1) = true) :
    Calls Tryz.prog 145 #[(.agg #[.int .i64 (a0), .int .i64 (a1)]), (.agg #[.int .i64 (b0), .int .i64 (b1)])] w fun e w' => e = .returned (.tuple #[(.agg #[.int .i64 (a0 + b0), .int .i64 (a1 + b1)]), .int .i64 0]) ∧ ∃ d, w' = bw w d := by
  have HB := Lib.hid (fun W => fx_bothG a0 a1 b0 b1 W)
  rw [ha, hb, Bool.and_self] at HB
  have HT := Lib.hid (fun W => fx_fitG _ _ W hm)
  have hf := fxB_iff.1 hm
  have hfa := fxB_iff.1 ha
  have hfb := fxB_iff.1 hb
  have k1 : IntKind.i64.wrap (a0 + b0) = a0 + b0 := IntWalk.i64_in _ (by omega)
  have k2 : IntKind.i64.wrap (a1 + b1) = a1 + b1 := IntWalk.i64_in _ (by omega)
  clear hf hfa hfb ha hb hm
  refine lay_start ?_
  go_enter Tryz.func145, Tryz.ntmps145
  go_wp2_with (first | (go_at_call 36; refine (HB.out _).mono ?_; rintro e w' ⟨rfl, d, rfl⟩) | (go_at_call 37; refine (HT.out _).mono ?_; rintro e w' ⟨rfl, d1, rfl⟩))
  exact bodyPost_ret (v := .tuple #[(.agg #[.int .i64 (a0 + b0), .int .i64 (a1 + b1)]), .int .i64 0]) (by simp [results, Tryz.results145, go_sem]) rfl ⟨rfl, lay_ex _ _⟩
end Go.Proofs.YtkhhdpndcidmgaaGreat
/- A cell that keeps its value: storing what is there changes nothing. No program in sight. -/
namespace Go.Proofs.YtkhhdpndcidmgaaGreat
open Go.RowKit

theorem set_same {W : World} {b i : Nat} {v : Value} (h : W.cell? ⟨b, i, none⟩ = some v) : W.setCell ⟨b, i, none⟩ v = W := by
  have hh : W.heap.modify b (fun o => match o with | .cells c elem frozen => .cells (if (none : Option Nat).isSome then c else c.setIfInBounds i v) elem frozen | o => o) = W.heap := by
    refine Array.ext (by simp) fun j h1 h2 => ?_
    rw [Array.getElem_modify]
    split
    · rename_i e
      subst e
      unfold World.cell? at h
      rw [Array.getElem?_eq_getElem h2] at h
      dsimp only at h
      split at h
      · rename_i c e f he
        rw [Option.some.injEq] at he
        rw [he]
        simp only [Option.isSome_none, Bool.false_eq_true, if_false] at h ⊢
        obtain ⟨hi, hv⟩ := Array.getElem?_eq_some_iff.1 h
        rw [Array.setIfInBounds_def, dif_pos hi, ← hv, Array.set_getElem_self]
      · cases h
    · rfl
  obtain ⟨heap, tape, drawn, os, output⟩ := W
  unfold World.setCell
  dsimp only at hh ⊢
  exact congrArg (fun x => ({ heap := x, tape := tape, drawn := drawn, os := os, output := output } : World)) hh
structure ChW (b : Nat) (W : World) : Prop where
  lt : b < W.heap.size
  cell : W.cell? ⟨b, 0, none⟩ = some (.int .i64 0)
  froz : W.frozen? ⟨b, 0, none⟩ = false
theorem ChW.ext {b : Nat} {W W' : World} (h : ChW b W) (hb : Below W.heap.size W W') : ChW b W' :=
  ⟨Nat.lt_of_lt_of_le h.lt hb.size, (hb.cell (p := ⟨b, 0, none⟩) h.lt).trans h.cell, (hb.frozen (p := ⟨b, 0, none⟩) h.lt).trans h.froz⟩
theorem ChW.bw {b : Nat} {W : World} (h : ChW b W) (d : Ext) : ChW b (bw W d) := h.ext (bw_below W d)
theorem ChW.lay {b : Nat} {W : World} (h : ChW b W) (L : List (Obj ⊕ Ext)) : ChW b (lay W L) := h.ext (lay_extends W L)
theorem ChW.set {b : Nat} {W : World} (h : ChW b W) : W.setCell ⟨b, 0, none⟩ (.int .i64 0) = W := set_same h.cell
theorem ChW.on {b : Nat} {w : World} {L : List (Obj ⊕ Ext)} (h : ChW b (Go.Proofs.YtkhhdpndcidmgaaGreat.lay w L)) (L' : List (Obj ⊕ Ext)) : ChW b (Go.Proofs.YtkhhdpndcidmgaaGreat.lay w (L' ++ L)) := by
  rw [lay_append]
  exact h.lay L'
theorem chW_new (w : World) (L : List (Obj ⊕ Ext)) (t : TypeId) (p : List Nat) (hp : shp L = p) : ChW (posn w p) (lay w (.inl (Obj.cells #[.int .i64 0] t) :: L)) := by
  subst hp
  have hg : (lay w (.inl (Obj.cells #[.int .i64 0] t) :: L)).heap[posn w (shp L)]? = some (Obj.cells #[.int .i64 0] t) := lay_get w (.inl (Obj.cells #[.int .i64 0] t) :: L) 0 _ rfl
  refine ⟨(Array.getElem?_eq_some_iff.1 hg).1, ?_, ?_⟩
  · unfold World.cell?; dsimp only; rw [hg]; rfl
  · unfold World.frozen?; dsimp only; rw [hg]; rfl
end Go.Proofs.YtkhhdpndcidmgaaGreat
/- Valid catalogues in the reference. -/
namespace Go.Proofs.YtkhhdpndcidmgaaGreat
open Go.RowKit Go.Shelf

set_option maxHeartbeats 4000000 in
set_option maxRecDepth 100000 in
theorem ref16_Valid (v : Value) (l : List StarV) (w : World) (hv : SlG stR w v l) :
    Calls Tryz.prog 15 #[v] w fun e w' => e = .returned (.bool (catB l)) ∧ ∃ d, w' = bw w d := by
  have HV := Lib.hid hv
  by_cases hbig : 100 < l.length
  · have HB := Lib.hid (catB_no (cat_big hbig))
    obtain ⟨a, c, rfl⟩ := hv.form
    have t1 : decide ((100 : Int) < (l.length : Int)) = true := decide_eq_true (by omega)
    clear hv hbig HV
    generalize l.length = m at *
    refine lay_start ?_
    go_enter Tryz.func15, Tryz.ntmps15
    go_wp2
    go_ret
    exact ⟨ret_bool HB.out, lay_ex _ _⟩
  · have t1 : decide ((100 : Int) < (l.length : Int)) = false := decide_eq_false (by omega)
    by_cases hz : l = []
    · subst hz
      have HB := Lib.hid (catB_yes (cat_all (l := []) (n := 0) rfl (by decide) (fun i _ hi => absurd hi (Nat.not_lt_zero i))))
      obtain ⟨a, c, rfl⟩ := hv.form
      refine lay_start ?_
      go_enter Tryz.func15, Tryz.ntmps15
      go_wp2_with fail
      refine wp_loop_rounds 1 ?_
      rw [rounds_succ]
      go_wp2
      go_ret
      exact ⟨ret_bool HB.out, lay_ex _ _⟩
    · obtain ⟨b, o, c, rfl, hc, hb, hr⟩ := hv.open (List.length_pos_iff.2 hz)
      have HI := Lib.hid (fun W s (q : SlG stR W (.slice (some ⟨b, o, none⟩) l.length c) l) => ref16_Find _ l s W q)
      have HWf := Lib.hid hv.wf
      have HBad := Lib.hid (fun i x hx (h : ¬ StOk1 l i x) => catB_no (cat_bad hx h))
      have HAll := Lib.hid (fun (h : ∀ i x, i < l.length → l[i]? = some x → StOk1 l i x) => catB_yes (cat_all rfl (by omega) h))
      obtain ⟨m, hm⟩ : ∃ m, l.length = m := ⟨_, rfl⟩
      have HM := Lib.hid hm
      have HR : Hid (∀ i x, l[i]? = some x → w.cell? ⟨b, o + i * 4, none⟩ = some (.string x.s) ∧ w.cell? ⟨b, o + i * 4 + 1, none⟩ = some (.int .i64 x.sha) ∧ w.cell? ⟨b, o + i * 4 + 2, none⟩ = some (.int .i64 x.dec) ∧ w.cell? ⟨b, o + i * 4 + 3, none⟩ = some (.int .i64 x.mag)) :=
        Lib.hid (fun i x hx => ⟨hr i x hx 0 _ rfl, hr i x hx 1 _ rfl, hr i x hx 2 _ rfl, hr i x hx 3 _ rfl⟩)
      rw [hm] at hc HV HI HAll hbig t1 ⊢
      clear hz hm hr hv
      refine lay_start ?_
      go_enter Tryz.func15, Tryz.ntmps15
      go_wp2_with fail
      go_loopw [3] (fun i wr => ∃ (k : Nat) (d : Ext), k ≤ m ∧ i = .int .i64 k ∧ wr = lay w [.inr d] ∧ ∀ i x, i < k → l[i]? = some x → StOk1 l i x) (fun i _ => m - (intOf i).toNat)
      case atStart => exact ⟨0, noExt _, Nat.zero_le _, rfl, (bw_noExt _).symm, fun i x hi => by omega⟩
      case round =>
        obtain ⟨k, d, hk, rfl, rfl, hA⟩ := hrel
        have HA := Lib.hid hA
        clear hA
        by_cases hlt : k < m
        · obtain ⟨x, hx⟩ : ∃ x, l[k]? = some x := ⟨_, List.getElem?_eq_getElem (by rw [HM.out]; exact hlt)⟩
          obtain ⟨e0, e1, e2, e3⟩ := HR.out k x hx
          have hsz := (HWf.out x (List.mem_of_getElem? hx)).1
          have HNo := Lib.hid (HBad.out k x hx)
          have HYes : Hid (StOk1 l k x → ∀ i y, i < k + 1 → l[i]? = some y → StOk1 l i y) := Lib.hid (fun h i y hi hy => by
            by_cases e : i = k
            · subst e
              rw [hx] at hy
              cases hy; exact h
            · exact HA.out i y (by omega) hy)
          have hst : StOk1 l k x ↔ nameB x.s = true ∧ numB x.sha x.dec x.mag = true ∧ fndS l x.s = (k : Int) := Iff.rfl
          have HSt := Lib.hid hst
          have x1 : (k : Int) < (m : Int) := by omega
          clear hx hst
          obtain ⟨xs, xa, xb, xc⟩ := x
          dsimp only at e0 e1 e2 e3 hsz HSt
          have HN1 := Lib.hid (fun W => ref01_IsName xs W hsz)
          have HN2 := Lib.hid (fun W => ref16_Star xs xa xb xc W)
          have HN3 := Lib.hid (fun W q => HI.out W xs q)
          generalize nameB xs = P1 at *
          generalize numB xa xb xc = P2 at *
          generalize fndS l xs = J at *
          have hcase : (P1 = true ∧ P2 = true ∧ J = (k : Int)) ∨ (¬ StOk1 l k ⟨xs, xa, xb, xc⟩ ∧ (P1 = false ∨ (P1 = true ∧ P2 = false ∧ J = (k : Int)) ∨ (P1 = true ∧ (J == (k : Int)) = false))) := by
            cases P1
            · exact .inr ⟨(fun h => absurd (HSt.out.1 h).1 (by decide)), .inl rfl⟩
            · by_cases hj : J = (k : Int)
              · cases P2
                · exact .inr ⟨(fun h => absurd (HSt.out.1 h).2.1 (by decide)), .inr (.inl ⟨rfl, rfl, hj⟩)⟩
                · exact .inl ⟨rfl, rfl, hj⟩
              · exact .inr ⟨(fun h => hj (HSt.out.1 h).2.2), .inr (.inr ⟨rfl, beq_eq_false_iff_ne.2 hj⟩)⟩
          rcases hcase with ⟨rfl, rfl, rfl⟩ | ⟨hno, hw⟩
          · have HY2 := Lib.hid (HYes.out (HSt.out.2 ⟨rfl, rfl, rfl⟩))
            go_wp2_with (first | (go_at_call 43; refine (HN1.out _).mono ?_; rintro e w' ⟨rfl, rfl⟩) | (go_at_call 45; refine (HN2.out _).mono ?_; rintro e w' ⟨rfl, d, rfl⟩) | (go_at_call 44; refine (HN3.out _ (HV.out.lay _)).mono ?_; rintro e w' ⟨rfl, d, rfl⟩))
            go_roundw
            case rel => exact ⟨k + 1, _, by omega, by go_num, Classical.choose_spec (lay_all w _), HY2.out⟩
            case measure => simp [intOf]; omega
          · have HB := Lib.hid (HNo.out hno)
            clear hno
            rcases hw with rfl | ⟨rfl, rfl, rfl⟩ | ⟨rfl, t9⟩
            all_goals
              go_wp2_with (first | (go_at_call 43; refine (HN1.out _).mono ?_; rintro e w' ⟨rfl, rfl⟩) | (go_at_call 45; refine (HN2.out _).mono ?_; rintro e w' ⟨rfl, d, rfl⟩) | (go_at_call 44; refine (HN3.out _ (HV.out.lay _)).mono ?_; rintro e w' ⟨rfl, d, rfl⟩))
              go_ret
              exact ⟨ret_bool HB.out, lay_ex _ _⟩
        · have HB := Lib.hid (HAll.out (fun i x hi hx => HA.out i x (by omega) hx))
          have x1 : ¬ (k : Int) < (m : Int) := by omega
          go_wp2
          go_ret
          exact ⟨ret_bool HB.out, lay_ex _ _⟩
end Go.Proofs.YtkhhdpndcidmgaaGreat
