/- Contracts and plain laws, several texts in one: Fa2; Fa3 -/
import Derived.Test.YtkhhdpndcidmgaaGreatProg
import Derived.WalkKit
import Derived.WalkSpells
import Derived.WalkLawsBesides
import Derived.Lib.Hide
import Derived.BigQuiet
import Derived.Test.YtkhhdpndcidmgaaGreatTAE
import Derived.Test.YtkhhdpndcidmgaaGreatTAF
import Derived.Test.YtkhhdpndcidmgaaGreatTAI
import Derived.Test.YtkhhdpndcidmgaaGreatTBG
/- arctrig: angle, as a function, for any point but the origin. -/
namespace Go.Proofs.YtkhhdpndcidmgaaGreat
open Go.RowKit

set_option maxHeartbeats 4000000 in
set_option maxRecDepth 100000 in
theorem ar_angF0 (u v : Nat) (hu0 : 0 < u) (hu : u ≤ 2147483648) (hv : v ≤ 2147483648) (w : World) :
    Calls Tryz.prog 73 #[.agg #[.int .i64 (u : Int), .int .i64 (v : Int)]] w fun e w' => ∃ (k : Nat) (ex : Bool) (d : Ext), e = .returned (.tuple #[.int .i64 (k : Int), .bool ex]) ∧ AngF u v k ex ∧ w' = bw w d := by
  have a1 : (0 : Int) < (u : Int) := by omega
  have a2 : (0 : Int) ≤ (v : Int) := by omega
  refine lay_start ?_
  go_enter Tryz.func73, Tryz.ntmps73
  go_wp2_with fail
  go_loopw [4] (fun v4 wr => v4 = .int .i64 0 ∧ wr = lay w [.inl (.cells #[.int .i64 (u : Int), .int .i64 (v : Int)] 116 (0, 0))]) (fun _ _ => 0)
  case atStart => exact ⟨rfl, rfl⟩
  case round =>
    obtain ⟨rfl, rfl⟩ := hrel
    go_wp2_with fail
    go_loopw [5, 6] (fun v5 v6 wr => ∃ (l h : Nat) (dd : Ext), v5 = .int .i64 (l : Int) ∧ v6 = .int .i64 (h : Int) ∧ wr = lay w (.inr dd :: [.inl (.cells #[.int .i64 (u : Int), .int .i64 (v : Int)] 116 (0, 0))]) ∧ l < h ∧ h ≤ 5400000 ∧ ∃ f, h - l ≤ 2 ^ f ∧ bisF (u : Int) (v : Int) f l h = bisF (u : Int) (v : Int) 23 0 5400000) (fun v5 v6 _ => (intOf v6 - intOf v5).toNat)
    case atStart => exact ⟨0, 5400000, noExt _, rfl, rfl, (bw_noExt _).symm, by decide, by decide, 23, by decide, rfl⟩
    case round =>
      obtain ⟨l, h, dd, rfl, rfl, rfl, hlh, hh, f, hA, hB⟩ := hrel
      have HA := Lib.hid hA
      have HB2 := Lib.hid hB
      clear hA hB
      have k1 : IntKind.i64.wrap ((h : Int) - (l : Int)) = (h : Int) - (l : Int) := IntWalk.i64_in _ (by omega)
      by_cases c : (1 : Int) < (h : Int) - (l : Int)
      · obtain ⟨XQ, hXQ⟩ : ∃ XQ : Int, (l : Int) + (h : Int) = XQ := ⟨_, rfl⟩
        obtain ⟨m, hm⟩ : ∃ m : Nat, XQ.tdiv 2 = (m : Int) := ⟨(XQ.tdiv 2).toNat, by rw [Int.tdiv_eq_ediv_of_nonneg (by omega)]; omega⟩
        have k2 : IntKind.i64.wrap ((l : Int) + (h : Int)) = XQ := by rw [hXQ]; exact IntWalk.i64_in _ (by omega)
        have hmid : m = (l + h) / 2 := by rw [Int.tdiv_eq_ediv_of_nonneg (by omega)] at hm; omega
        obtain ⟨f', hf0, hf1⟩ := bisF_step (u := (u : Int)) (v := (v : Int)) hmid (by omega) HA.out
        rw [HB2.out] at hf0 hf1
        have HF0 := Lib.hid hf0
        have HF1 := Lib.hid hf1
        clear hmid hf0 hf1
        have hml : l < m ∧ m < h := by rw [Int.tdiv_eq_ediv_of_nonneg (by omega)] at hm; omega
        have k3 : IntKind.i64.wrap (m : Int) = (m : Int) := IntWalk.i64_in _ (by omega)
        have HBm := Lib.hid (fun W => ar_reaches u v m (by omega) (by omega) (by omega) W)
        have HLH := Lib.hid (And.intro hlh (And.intro hh hml))
        clear hXQ hlh hh hml
        cases cb : rchB (u : Int) (v : Int) m
        · rw [cb] at HBm
          have HC := Lib.hid cb
          clear cb
          go_wp2_with (go_at_call 108; refine (HBm.out _).mono ?_; rintro e w' ⟨rfl, d1, rfl⟩; rw [lay_bw])
          obtain ⟨g1, g2, g3, g4⟩ := HLH.out
          obtain ⟨de, hde⟩ := lay_fold w [.inr d1, .inr dd] [.inl (.cells #[.int .i64 (u : Int), .int .i64 (v : Int)] 116 (0, 0))]
          exact ⟨⟨_, _, de, rfl, rfl, hde, by omega, by omega, f', (HF0.out HC.out).1, (HF0.out HC.out).2⟩, by simp only [intOf]; omega⟩
        · rw [cb] at HBm
          have HC := Lib.hid cb
          clear cb
          go_wp2_with (go_at_call 108; refine (HBm.out _).mono ?_; rintro e w' ⟨rfl, d1, rfl⟩; rw [lay_bw])
          obtain ⟨g1, g2, g3, g4⟩ := HLH.out
          obtain ⟨de, hde⟩ := lay_fold w [.inr d1, .inr dd] [.inl (.cells #[.int .i64 (u : Int), .int .i64 (v : Int)] 116 (0, 0))]
          exact ⟨⟨_, _, de, rfl, rfl, hde, by omega, by omega, f', (HF1.out HC.out).1, (HF1.out HC.out).2⟩, by simp only [intOf]; omega⟩
      · have hhl : h = l + 1 := by omega
        have kT : IntKind.i64.wrap (0 + (l : Int)) = 0 + (l : Int) := IntWalk.i64_in _ (by omega)
        subst hhl
        have HAng : ∀ ex, ex = (decide (l = 0 ∧ (v : Int) = 0) || decide (l = 2700000 ∧ (u : Int) = (v : Int))) → AngF (u : Int) (v : Int) l ex := fun ex h => ⟨by omega, by have := HB2.out; rw [bisF_end] at this; exact this, h⟩
        have HAng := Lib.hid HAng
        have HL := Lib.hid (And.intro hlh hh)
        clear hlh hh HA HB2
        have kT0 : IntKind.i64.wrap (l : Int) = (l : Int) := by simpa using kT
        by_cases c1 : (l : Int) = 0
        · have n1 : ¬ (l : Int) = 2700000 := by omega
          have n2 : ¬ l = 2700000 := by omega
          by_cases c2 : (v : Int) = 0
          · have N : Hid (l = 0 ∧ (v : Int) = 0 ∧ ¬ l = 2700000 ∧ True) := Lib.hid ⟨by omega, c2, n2, trivial⟩
            go_wp2_with fail
            refine region_mixS 22 [(0, 0), (1, 0), (2, 0), (3, 0), (4, 0), (5, 0), (6, 0), (7, 0), (8, 0), (9, 0), (10, 0), (11, 0), (12, 0), (13, 0), (14, 0), (15, 0), (16, 0), (17, 0), (18, 0), (19, 0), (20, 0), (21, 0), (22, 3)] (by kernel_rfl) (by kernel_rfl) (by kernel_rfl) rfl ?_
            iterate 22 (refine wpMS_quiet rfl (fun K hK => ?_); go_simp; refine hK _ ?_; clear hK K)
            refine wpMS_store rfl (fun K hK e1 => ?_)
            rw [lay_bw]
            go_simp
            refine hK _ _ ?_
            clear hK K
            refine wpMS_nil (fun e2 => ?_)
            rw [lay_bw]
            go_wp2_with fail
            refine bodyPost_ret (v := .tuple #[.int .i64 0, .bool true]) (by simp [results, Tryz.results73, go_sem] <;> first | done | decide | exact kT0 | omega | (refine ⟨by first | decide | exact kT0, by omega⟩)) rfl ?_
            exact ⟨l, true, _, by first | rfl | (rw [c1]; done) | (rw [c1]; rfl) | (rw [c1]; simp), HAng.out _ (by have := N.out; simp_all <;> omega), (lay_ex _ _).choose_spec⟩
          · have c3 : ¬ v = 0 := by omega
            have N : Hid (l = 0 ∧ ¬ (v : Int) = 0 ∧ ¬ l = 2700000 ∧ True) := Lib.hid ⟨by omega, c2, n2, trivial⟩
            go_wp2_with fail
            refine region_mixS 22 [(0, 0), (1, 0), (2, 0), (3, 0), (4, 0), (5, 0), (6, 0), (7, 0), (8, 0), (9, 0), (10, 0), (11, 0), (12, 0), (13, 0), (14, 0), (15, 0), (16, 0), (17, 0), (18, 0), (19, 0), (20, 0), (21, 0), (22, 3)] (by kernel_rfl) (by kernel_rfl) (by kernel_rfl) rfl ?_
            iterate 22 (refine wpMS_quiet rfl (fun K hK => ?_); go_simp; refine hK _ ?_; clear hK K)
            refine wpMS_store rfl (fun K hK e1 => ?_)
            rw [lay_bw]
            go_simp
            refine hK _ _ ?_
            clear hK K
            refine wpMS_nil (fun e2 => ?_)
            rw [lay_bw]
            go_wp2_with fail
            refine bodyPost_ret (v := .tuple #[.int .i64 0, .bool false]) (by simp [results, Tryz.results73, go_sem] <;> first | done | decide | exact kT0 | omega | (refine ⟨by first | decide | exact kT0, by omega⟩)) rfl ?_
            exact ⟨l, false, _, by first | rfl | (rw [c1]; done) | (rw [c1]; rfl) | (rw [c1]; simp), HAng.out _ (by have := N.out; simp_all <;> omega), (lay_ex _ _).choose_spec⟩
        · have n1 : ¬ l = 0 := by omega
          by_cases c2 : l = 2700000
          · subst c2
            by_cases c3 : u = v
            · have c4 : (u : Int) = (v : Int) := by omega
              have N : Hid (True ∧ True ∧ True ∧ (u : Int) = (v : Int)) := Lib.hid ⟨trivial, trivial, trivial, c4⟩
              go_wp2_with fail
              refine region_mixS 22 [(0, 0), (1, 0), (2, 0), (3, 0), (4, 0), (5, 0), (6, 0), (7, 0), (8, 0), (9, 0), (10, 0), (11, 0), (12, 0), (13, 0), (14, 0), (15, 0), (16, 0), (17, 0), (18, 0), (19, 0), (20, 0), (21, 0), (22, 3)] (by kernel_rfl) (by kernel_rfl) (by kernel_rfl) rfl ?_
              iterate 22 (refine wpMS_quiet rfl (fun K hK => ?_); go_simp; refine hK _ ?_; clear hK K)
              refine wpMS_store rfl (fun K hK e1 => ?_)
              rw [lay_bw]
              go_simp
              refine hK _ _ ?_
              clear hK K
              refine wpMS_nil (fun e2 => ?_)
              rw [lay_bw]
              go_wp2_with fail
              refine bodyPost_ret (v := .tuple #[.int .i64 (0 + 2700000), .bool true]) (by simp [results, Tryz.results73, go_sem] <;> first | done | decide | exact kT0 | omega | (refine ⟨by first | decide | exact kT0, by omega⟩)) rfl ?_
              exact ⟨2700000, true, _, by first | rfl | (rw [c1]; done) | (rw [c1]; rfl) | (rw [c1]; simp), HAng.out _ (by have := N.out; simp_all <;> omega), (lay_ex _ _).choose_spec⟩
            · have c4 : ¬ (u : Int) = (v : Int) := by omega
              have N : Hid (True ∧ True ∧ True ∧ ¬ (u : Int) = (v : Int)) := Lib.hid ⟨trivial, trivial, trivial, c4⟩
              go_wp2_with fail
              refine region_mixS 22 [(0, 0), (1, 0), (2, 0), (3, 0), (4, 0), (5, 0), (6, 0), (7, 0), (8, 0), (9, 0), (10, 0), (11, 0), (12, 0), (13, 0), (14, 0), (15, 0), (16, 0), (17, 0), (18, 0), (19, 0), (20, 0), (21, 0), (22, 3)] (by kernel_rfl) (by kernel_rfl) (by kernel_rfl) rfl ?_
              iterate 22 (refine wpMS_quiet rfl (fun K hK => ?_); go_simp; refine hK _ ?_; clear hK K)
              refine wpMS_store rfl (fun K hK e1 => ?_)
              rw [lay_bw]
              go_simp
              refine hK _ _ ?_
              clear hK K
              refine wpMS_nil (fun e2 => ?_)
              rw [lay_bw]
              go_wp2_with fail
              refine bodyPost_ret (v := .tuple #[.int .i64 (0 + 2700000), .bool false]) (by simp [results, Tryz.results73, go_sem] <;> first | done | decide | exact kT0 | omega | (refine ⟨by first | decide | exact kT0, by omega⟩)) rfl ?_
              exact ⟨2700000, false, _, by first | rfl | (rw [c1]; done) | (rw [c1]; rfl) | (rw [c1]; simp), HAng.out _ (by have := N.out; simp_all <;> omega), (lay_ex _ _).choose_spec⟩
          · have c3 : ¬ (l : Int) = 2700000 := by omega
            have N : Hid (¬ l = 0 ∧ True ∧ ¬ l = 2700000 ∧ True) := Lib.hid ⟨n1, trivial, c2, trivial⟩
            go_wp2_with fail
            refine region_mixS 22 [(0, 0), (1, 0), (2, 0), (3, 0), (4, 0), (5, 0), (6, 0), (7, 0), (8, 0), (9, 0), (10, 0), (11, 0), (12, 0), (13, 0), (14, 0), (15, 0), (16, 0), (17, 0), (18, 0), (19, 0), (20, 0), (21, 0), (22, 3)] (by kernel_rfl) (by kernel_rfl) (by kernel_rfl) rfl ?_
            iterate 22 (refine wpMS_quiet rfl (fun K hK => ?_); go_simp; refine hK _ ?_; clear hK K)
            refine wpMS_store rfl (fun K hK e1 => ?_)
            rw [lay_bw]
            go_simp
            refine hK _ _ ?_
            clear hK K
            refine wpMS_nil (fun e2 => ?_)
            rw [lay_bw]
            go_wp2_with fail
            refine bodyPost_ret (v := .tuple #[.int .i64 (l : Int), .bool false]) (by simp [results, Tryz.results73, go_sem] <;> first | done | decide | exact kT0 | omega | (refine ⟨by first | decide | exact kT0, by omega⟩)) rfl ?_
            exact ⟨l, false, _, by first | rfl | (rw [c1]; done) | (rw [c1]; rfl) | (rw [c1]; simp), HAng.out _ (by have := N.out; simp_all <;> omega), (lay_ex _ _).choose_spec⟩
end Go.Proofs.YtkhhdpndcidmgaaGreat
/- arctrig: angle, as a function: one turn by a quarter. -/
namespace Go.Proofs.YtkhhdpndcidmgaaGreat
open Go.RowKit

set_option maxHeartbeats 4000000 in
set_option maxRecDepth 100000 in
theorem ar_angF1 (u v : Nat) (a : Int) (hu0 : 0 < u) (hu : u ≤ 2147483648) (hv : v ≤ 2147483648) (ha : a = -(v : Int)) (w : World) :
    Calls Tryz.prog 73 #[.agg #[.int .i64 a, .int .i64 (u : Int)]] w fun e w' => ∃ (k : Nat) (ex : Bool) (d : Ext), e = .returned (.tuple #[.int .i64 (5400000 + (k : Int)), .bool ex]) ∧ AngF u v k ex ∧ w' = bw w d := by
  have a4 : ¬ (0 : Int) < a := by omega
  have a5 : (0 : Int) < (u : Int) := by omega
  have a6 : (0 : Int) ≤ (v : Int) := by omega
  have k1 : IntKind.i64.wrap (-a) = (v : Int) := by rw [ha, Int.neg_neg]; exact IntWalk.i64_in _ (by omega)
  have t1 : IntKind.i64.wrap ((0 : Int) + 5400000) = 5400000 := by decide
  clear ha
  refine lay_start ?_
  go_enter Tryz.func73, Tryz.ntmps73
  go_wp2_with fail
  go_loopw [4] (fun v4 wr => (v4 = .int .i64 0 ∧ wr = lay w [.inl (.cells #[.int .i64 a, .int .i64 (u : Int)] 116 (0, 0))]) ∨ (v4 = .int .i64 5400000 ∧ wr = lay w [.inl (.cells #[.int .i64 (u : Int), .int .i64 (v : Int)] 116 (0, 0))])) (fun v4 _ => (21600000 - intOf v4).toNat)
  case atStart => exact .inl ⟨rfl, rfl⟩
  case round =>
    rcases hrel with ⟨rfl, rfl⟩ | ⟨rfl, rfl⟩
    · go_wp2_with fail
      exact ⟨.inr ⟨by first | rfl | decide, by first | rfl | trivial⟩, by first | decide | (simp only [intOf]; decide)⟩
    · go_wp2_with fail
      go_loopw [5, 6] (fun v5 v6 wr => ∃ (l h : Nat) (dd : Ext), v5 = .int .i64 (l : Int) ∧ v6 = .int .i64 (h : Int) ∧ wr = lay w (.inr dd :: [.inl (.cells #[.int .i64 (u : Int), .int .i64 (v : Int)] 116 (0, 0))]) ∧ l < h ∧ h ≤ 5400000 ∧ ∃ f, h - l ≤ 2 ^ f ∧ bisF (u : Int) (v : Int) f l h = bisF (u : Int) (v : Int) 23 0 5400000) (fun v5 v6 _ => (intOf v6 - intOf v5).toNat)
      case atStart => exact ⟨0, 5400000, noExt _, rfl, rfl, (bw_noExt _).symm, by decide, by decide, 23, by decide, rfl⟩
      case round =>
        obtain ⟨l, h, dd, rfl, rfl, rfl, hlh, hh, f, hA, hB⟩ := hrel
        have HA := Lib.hid hA
        have HB2 := Lib.hid hB
        clear hA hB
        have k1 : IntKind.i64.wrap ((h : Int) - (l : Int)) = (h : Int) - (l : Int) := IntWalk.i64_in _ (by omega)
        by_cases c : (1 : Int) < (h : Int) - (l : Int)
        · obtain ⟨XQ, hXQ⟩ : ∃ XQ : Int, (l : Int) + (h : Int) = XQ := ⟨_, rfl⟩
          obtain ⟨m, hm⟩ : ∃ m : Nat, XQ.tdiv 2 = (m : Int) := ⟨(XQ.tdiv 2).toNat, by rw [Int.tdiv_eq_ediv_of_nonneg (by omega)]; omega⟩
          have k2 : IntKind.i64.wrap ((l : Int) + (h : Int)) = XQ := by rw [hXQ]; exact IntWalk.i64_in _ (by omega)
          have hmid : m = (l + h) / 2 := by rw [Int.tdiv_eq_ediv_of_nonneg (by omega)] at hm; omega
          obtain ⟨f', hf0, hf1⟩ := bisF_step (u := (u : Int)) (v := (v : Int)) hmid (by omega) HA.out
          rw [HB2.out] at hf0 hf1
          have HF0 := Lib.hid hf0
          have HF1 := Lib.hid hf1
          clear hmid hf0 hf1
          have hml : l < m ∧ m < h := by rw [Int.tdiv_eq_ediv_of_nonneg (by omega)] at hm; omega
          have k3 : IntKind.i64.wrap (m : Int) = (m : Int) := IntWalk.i64_in _ (by omega)
          have HBm := Lib.hid (fun W => ar_reaches u v m (by omega) (by omega) (by omega) W)
          have HLH := Lib.hid (And.intro hlh (And.intro hh hml))
          clear hXQ hlh hh hml
          cases cb : rchB (u : Int) (v : Int) m
          · rw [cb] at HBm
            have HC := Lib.hid cb
            clear cb
            go_wp2_with (go_at_call 108; refine (HBm.out _).mono ?_; rintro e w' ⟨rfl, d1, rfl⟩; rw [lay_bw])
            obtain ⟨g1, g2, g3, g4⟩ := HLH.out
            obtain ⟨de, hde⟩ := lay_fold w [.inr d1, .inr dd] [.inl (.cells #[.int .i64 (u : Int), .int .i64 (v : Int)] 116 (0, 0))]
            exact ⟨⟨_, _, de, rfl, rfl, hde, by omega, by omega, f', (HF0.out HC.out).1, (HF0.out HC.out).2⟩, by simp only [intOf]; omega⟩
          · rw [cb] at HBm
            have HC := Lib.hid cb
            clear cb
            go_wp2_with (go_at_call 108; refine (HBm.out _).mono ?_; rintro e w' ⟨rfl, d1, rfl⟩; rw [lay_bw])
            obtain ⟨g1, g2, g3, g4⟩ := HLH.out
            obtain ⟨de, hde⟩ := lay_fold w [.inr d1, .inr dd] [.inl (.cells #[.int .i64 (u : Int), .int .i64 (v : Int)] 116 (0, 0))]
            exact ⟨⟨_, _, de, rfl, rfl, hde, by omega, by omega, f', (HF1.out HC.out).1, (HF1.out HC.out).2⟩, by simp only [intOf]; omega⟩
        · have hhl : h = l + 1 := by omega
          have kT : IntKind.i64.wrap (5400000 + (l : Int)) = 5400000 + (l : Int) := IntWalk.i64_in _ (by omega)
          subst hhl
          have HAng : ∀ ex, ex = (decide (l = 0 ∧ (v : Int) = 0) || decide (l = 2700000 ∧ (u : Int) = (v : Int))) → AngF (u : Int) (v : Int) l ex := fun ex h => ⟨by omega, by have := HB2.out; rw [bisF_end] at this; exact this, h⟩
          have HAng := Lib.hid HAng
          have HL := Lib.hid (And.intro hlh hh)
          clear hlh hh HA HB2
          have kT0 : IntKind.i64.wrap (5400000 + (l : Int)) = (5400000 + (l : Int)) := by simpa using kT
          by_cases c1 : (l : Int) = 0
          · have n1 : ¬ (l : Int) = 2700000 := by omega
            have n2 : ¬ l = 2700000 := by omega
            by_cases c2 : (v : Int) = 0
            · have N : Hid (l = 0 ∧ (v : Int) = 0 ∧ ¬ l = 2700000 ∧ True) := Lib.hid ⟨by omega, c2, n2, trivial⟩
              go_wp2_with fail
              refine region_mixS 22 [(0, 0), (1, 0), (2, 0), (3, 0), (4, 0), (5, 0), (6, 0), (7, 0), (8, 0), (9, 0), (10, 0), (11, 0), (12, 0), (13, 0), (14, 0), (15, 0), (16, 0), (17, 0), (18, 0), (19, 0), (20, 0), (21, 0), (22, 3)] (by kernel_rfl) (by kernel_rfl) (by kernel_rfl) rfl ?_
              iterate 22 (refine wpMS_quiet rfl (fun K hK => ?_); go_simp; refine hK _ ?_; clear hK K)
              refine wpMS_store rfl (fun K hK e1 => ?_)
              rw [lay_bw]
              go_simp
              refine hK _ _ ?_
              clear hK K
              refine wpMS_nil (fun e2 => ?_)
              rw [lay_bw]
              go_wp2_with fail
              refine bodyPost_ret (v := .tuple #[.int .i64 5400000, .bool true]) (by simp [results, Tryz.results73, go_sem] <;> first | done | decide | exact kT0 | omega | (refine ⟨by first | decide | exact kT0, by omega⟩)) rfl ?_
              exact ⟨l, true, _, by first | rfl | (rw [c1]; done) | (rw [c1]; rfl) | (rw [c1]; simp), HAng.out _ (by have := N.out; simp_all <;> omega), (lay_ex _ _).choose_spec⟩
            · have c3 : ¬ v = 0 := by omega
              have N : Hid (l = 0 ∧ ¬ (v : Int) = 0 ∧ ¬ l = 2700000 ∧ True) := Lib.hid ⟨by omega, c2, n2, trivial⟩
              go_wp2_with fail
              refine region_mixS 22 [(0, 0), (1, 0), (2, 0), (3, 0), (4, 0), (5, 0), (6, 0), (7, 0), (8, 0), (9, 0), (10, 0), (11, 0), (12, 0), (13, 0), (14, 0), (15, 0), (16, 0), (17, 0), (18, 0), (19, 0), (20, 0), (21, 0), (22, 3)] (by kernel_rfl) (by kernel_rfl) (by kernel_rfl) rfl ?_
              iterate 22 (refine wpMS_quiet rfl (fun K hK => ?_); go_simp; refine hK _ ?_; clear hK K)
              refine wpMS_store rfl (fun K hK e1 => ?_)
              rw [lay_bw]
              go_simp
              refine hK _ _ ?_
              clear hK K
              refine wpMS_nil (fun e2 => ?_)
              rw [lay_bw]
              go_wp2_with fail
              refine bodyPost_ret (v := .tuple #[.int .i64 5400000, .bool false]) (by simp [results, Tryz.results73, go_sem] <;> first | done | decide | exact kT0 | omega | (refine ⟨by first | decide | exact kT0, by omega⟩)) rfl ?_
              exact ⟨l, false, _, by first | rfl | (rw [c1]; done) | (rw [c1]; rfl) | (rw [c1]; simp), HAng.out _ (by have := N.out; simp_all <;> omega), (lay_ex _ _).choose_spec⟩
          · have n1 : ¬ l = 0 := by omega
            by_cases c2 : l = 2700000
            · subst c2
              by_cases c3 : u = v
              · have c4 : (u : Int) = (v : Int) := by omega
                have N : Hid (True ∧ True ∧ True ∧ (u : Int) = (v : Int)) := Lib.hid ⟨trivial, trivial, trivial, c4⟩
                go_wp2_with fail
                refine region_mixS 22 [(0, 0), (1, 0), (2, 0), (3, 0), (4, 0), (5, 0), (6, 0), (7, 0), (8, 0), (9, 0), (10, 0), (11, 0), (12, 0), (13, 0), (14, 0), (15, 0), (16, 0), (17, 0), (18, 0), (19, 0), (20, 0), (21, 0), (22, 3)] (by kernel_rfl) (by kernel_rfl) (by kernel_rfl) rfl ?_
                iterate 22 (refine wpMS_quiet rfl (fun K hK => ?_); go_simp; refine hK _ ?_; clear hK K)
                refine wpMS_store rfl (fun K hK e1 => ?_)
                rw [lay_bw]
                go_simp
                refine hK _ _ ?_
                clear hK K
                refine wpMS_nil (fun e2 => ?_)
                rw [lay_bw]
                go_wp2_with fail
                refine bodyPost_ret (v := .tuple #[.int .i64 (5400000 + 2700000), .bool true]) (by simp [results, Tryz.results73, go_sem] <;> first | done | decide | exact kT0 | omega | (refine ⟨by first | decide | exact kT0, by omega⟩)) rfl ?_
                exact ⟨2700000, true, _, by first | rfl | (rw [c1]; done) | (rw [c1]; rfl) | (rw [c1]; simp), HAng.out _ (by have := N.out; simp_all <;> omega), (lay_ex _ _).choose_spec⟩
              · have c4 : ¬ (u : Int) = (v : Int) := by omega
                have N : Hid (True ∧ True ∧ True ∧ ¬ (u : Int) = (v : Int)) := Lib.hid ⟨trivial, trivial, trivial, c4⟩
                go_wp2_with fail
                refine region_mixS 22 [(0, 0), (1, 0), (2, 0), (3, 0), (4, 0), (5, 0), (6, 0), (7, 0), (8, 0), (9, 0), (10, 0), (11, 0), (12, 0), (13, 0), (14, 0), (15, 0), (16, 0), (17, 0), (18, 0), (19, 0), (20, 0), (21, 0), (22, 3)] (by kernel_rfl) (by kernel_rfl) (by kernel_rfl) rfl ?_
                iterate 22 (refine wpMS_quiet rfl (fun K hK => ?_); go_simp; refine hK _ ?_; clear hK K)
                refine wpMS_store rfl (fun K hK e1 => ?_)
                rw [lay_bw]
                go_simp
                refine hK _ _ ?_
                clear hK K
                refine wpMS_nil (fun e2 => ?_)
                rw [lay_bw]
                go_wp2_with fail
                refine bodyPost_ret (v := .tuple #[.int .i64 (5400000 + 2700000), .bool false]) (by simp [results, Tryz.results73, go_sem] <;> first | done | decide | exact kT0 | omega | (refine ⟨by first | decide | exact kT0, by omega⟩)) rfl ?_
                exact ⟨2700000, false, _, by first | rfl | (rw [c1]; done) | (rw [c1]; rfl) | (rw [c1]; simp), HAng.out _ (by have := N.out; simp_all <;> omega), (lay_ex _ _).choose_spec⟩
            · have c3 : ¬ (l : Int) = 2700000 := by omega
              have N : Hid (¬ l = 0 ∧ True ∧ ¬ l = 2700000 ∧ True) := Lib.hid ⟨n1, trivial, c2, trivial⟩
              go_wp2_with fail
              refine region_mixS 22 [(0, 0), (1, 0), (2, 0), (3, 0), (4, 0), (5, 0), (6, 0), (7, 0), (8, 0), (9, 0), (10, 0), (11, 0), (12, 0), (13, 0), (14, 0), (15, 0), (16, 0), (17, 0), (18, 0), (19, 0), (20, 0), (21, 0), (22, 3)] (by kernel_rfl) (by kernel_rfl) (by kernel_rfl) rfl ?_
              iterate 22 (refine wpMS_quiet rfl (fun K hK => ?_); go_simp; refine hK _ ?_; clear hK K)
              refine wpMS_store rfl (fun K hK e1 => ?_)
              rw [lay_bw]
              go_simp
              refine hK _ _ ?_
              clear hK K
              refine wpMS_nil (fun e2 => ?_)
              rw [lay_bw]
              go_wp2_with fail
              refine bodyPost_ret (v := .tuple #[.int .i64 (5400000 + (l : Int)), .bool false]) (by simp [results, Tryz.results73, go_sem] <;> first | done | decide | exact kT0 | omega | (refine ⟨by first | decide | exact kT0, by omega⟩)) rfl ?_
              exact ⟨l, false, _, by first | rfl | (rw [c1]; done) | (rw [c1]; rfl) | (rw [c1]; simp), HAng.out _ (by have := N.out; simp_all <;> omega), (lay_ex _ _).choose_spec⟩
end Go.Proofs.YtkhhdpndcidmgaaGreat
