/- Contracts and plain laws, several texts in one: Fa5 -/
import Derived.Test.YtkhhdpndcidmgaaGreatProg
import Derived.WalkKit
import Derived.WalkSpells
import Derived.WalkLawsBesides
import Derived.Lib.Hide
import Derived.BigQuiet
import Derived.Test.YtkhhdpndcidmgaaGreatTAE
import Derived.Test.YtkhhdpndcidmgaaGreatTAF
import Derived.Test.YtkhhdpndcidmgaaGreatTAI
import Derived.Test.YtkhhdpndcidmgaaGreatTBG
/- arctrig: angle, as a function: three turns by a quarter. -/
namespace Go.Proofs.YtkhhdpndcidmgaaGreat
set_option maxHeartbeats 4000000
set_option maxRecDepth 100000
open Go.RowKit

theorem ar_angF3 (u v : Nat) (b c : Int) (hu0 : 0 < u) (hu : u ≤ 2147483648) (hv0 : 0 < v) (hv : v ≤ 2147483648) (hb : b = -(u : Int)) (hc : c = -(v : Int)) (w : World) :
    Calls Tryz.prog 73 #[.agg #[.int .i64 (v : Int), .int .i64 b]] w fun e w' => ∃ (k : Nat) (ex : Bool) (d : Ext), e = .returned (.tuple #[.int .i64 (16200000 + (k : Int)), .bool ex]) ∧ AngF u v k ex ∧ w' = bw w d := by
  have a1 : (0 : Int) < (v : Int) := by omega
  have a2 : ¬ (0 : Int) ≤ b := by omega
  have a3 : ¬ (0 : Int) < b := by omega
  have a4 : ¬ (0 : Int) < c := by omega
  have a5 : (0 : Int) < (u : Int) := by omega
  have a6 : (0 : Int) ≤ (v : Int) := by omega
  have k1 : IntKind.i64.wrap (-(v : Int)) = c := by rw [hc]; exact IntWalk.i64_in _ (by omega)
  have k2 : IntKind.i64.wrap (-b) = (u : Int) := by rw [hb, Int.neg_neg]; exact IntWalk.i64_in _ (by omega)
  have k3 : IntKind.i64.wrap (-c) = (v : Int) := by rw [hc, Int.neg_neg]; exact IntWalk.i64_in _ (by omega)
  have t1 : IntKind.i64.wrap ((0 : Int) + 5400000) = 5400000 := by decide
  have t2 : IntKind.i64.wrap ((5400000 : Int) + 5400000) = 10800000 := by decide
  have t3 : IntKind.i64.wrap ((10800000 : Int) + 5400000) = 16200000 := by decide
  clear hb hc
  refine lay_start ?_
  go_enter Tryz.func73, Tryz.ntmps73
  go_wp2_with fail
  go_loopw [4] (fun v4 wr => (v4 = .int .i64 0 ∧ wr = lay w [.inl (.cells #[.int .i64 (v : Int), .int .i64 b] 116 (0, 0))]) ∨ (v4 = .int .i64 5400000 ∧ wr = lay w [.inl (.cells #[.int .i64 b, .int .i64 c] 116 (0, 0))]) ∨ (v4 = .int .i64 10800000 ∧ wr = lay w [.inl (.cells #[.int .i64 c, .int .i64 (u : Int)] 116 (0, 0))]) ∨ (v4 = .int .i64 16200000 ∧ wr = lay w [.inl (.cells #[.int .i64 (u : Int), .int .i64 (v : Int)] 116 (0, 0))])) (fun v4 _ => (21600000 - intOf v4).toNat)
  case atStart => exact .inl ⟨rfl, rfl⟩
  case round =>
    rcases hrel with ⟨rfl, rfl⟩ | ⟨rfl, rfl⟩ | ⟨rfl, rfl⟩ | ⟨rfl, rfl⟩
    · go_wp2_with fail
      all_goals first | (exfalso; have hq : (!decide ((0 : Int) ≤ b)) = false := (by assumption); simp at hq; omega) | skip
      exact ⟨.inr (.inl ⟨by first | rfl | decide, by first | rfl | trivial⟩), by first | decide | (simp only [intOf]; decide)⟩
    · go_wp2_with fail
      exact ⟨.inr (.inr (.inl ⟨by first | rfl | decide, by first | rfl | trivial⟩)), by first | decide | (simp only [intOf]; decide)⟩
    · go_wp2_with fail
      exact ⟨.inr (.inr (.inr ⟨by first | rfl | decide, by first | rfl | trivial⟩)), by first | decide | (simp only [intOf]; decide)⟩
    · go_wp2_with fail
      go_loopw [5, 6] (fun v5 v6 wr => ∃ (l h : Nat) (dd : Ext), v5 = .int .i64 (l : Int) ∧ v6 = .int .i64 (h : Int) ∧ wr = lay w (.inr dd :: [.inl (.cells #[.int .i64 (u : Int), .int .i64 (v : Int)] 116 (0, 0))]) ∧ l < h ∧ h ≤ 5400000 ∧ ∃ f, h - l ≤ 2 ^ f ∧ bisF (u : Int) (v : Int) f l h = bisF (u : Int) (v : Int) 23 0 5400000) (fun v5 v6 _ => (intOf v6 - intOf v5).toNat)
      case atStart => exact ⟨0, 5400000, noExt _, rfl, rfl, (bw_noExt _).symm, by decide, by decide, 23, by decide, rfl⟩
      case round =>
        obtain ⟨l, h, dd, rfl, rfl, rfl, hlh, hh, f, hA, hB⟩ := hrel
        have HA := Lib.hid hA
        have HB2 := Lib.hid hB
        clear hA hB
        have k1 : IntKind.i64.wrap ((h : Int) - (l : Int)) = (h : Int) - (l : Int) := IntWalk.i64_in _ (by omega)
        by_cases c : (1 : Int) < (h : Int) - (l : Int)
        · obtain ⟨XQ, hXQ⟩ : ∃ XQ : Int, (l : Int) + (h : Int) = XQ := ⟨_, rfl⟩
          obtain ⟨m, hm⟩ : ∃ m : Nat, XQ.tdiv 2 = (m : Int) := ⟨(XQ.tdiv 2).toNat, by rw [Int.tdiv_eq_ediv_of_nonneg (by omega)]; omega⟩
          have k2 : IntKind.i64.wrap ((l : Int) + (h : Int)) = XQ := by rw [hXQ]; exact IntWalk.i64_in _ (by omega)
          have hmid : m = (l + h) / 2 := by rw [Int.tdiv_eq_ediv_of_nonneg (by omega)] at hm; omega
          obtain ⟨f', hf0, hf1⟩ := bisF_step (u := (u : Int)) (v := (v : Int)) hmid (by omega) HA.out
          rw [HB2.out] at hf0 hf1
          have HF0 := Lib.hid hf0
          have HF1 := Lib.hid hf1
          clear hmid hf0 hf1
          have hml : l < m ∧ m < h := by rw [Int.tdiv_eq_ediv_of_nonneg (by omega)] at hm; omega
          have k3 : IntKind.i64.wrap (m : Int) = (m : Int) := IntWalk.i64_in _ (by omega)
          have HBm := Lib.hid (fun W => ar_reaches u v m (by omega) (by omega) (by omega) W)
          have HLH := Lib.hid (And.intro hlh (And.intro hh hml))
          clear hXQ hlh hh hml
          cases cb : rchB (u : Int) (v : Int) m
          · rw [cb] at HBm
            have HC := Lib.hid cb
            clear cb
            go_wp2_with (go_at_call 108; refine (HBm.out _).mono ?_; rintro e w' ⟨rfl, d1, rfl⟩; rw [lay_bw])
            obtain ⟨g1, g2, g3, g4⟩ := HLH.out
            obtain ⟨de, hde⟩ := lay_fold w [.inr d1, .inr dd] [.inl (.cells #[.int .i64 (u : Int), .int .i64 (v : Int)] 116 (0, 0))]
            exact ⟨⟨_, _, de, rfl, rfl, hde, by omega, by omega, f', (HF0.out HC.out).1, (HF0.out HC.out).2⟩, by simp only [intOf]; omega⟩
          · rw [cb] at HBm
            have HC := Lib.hid cb
            clear cb
            go_wp2_with (go_at_call 108; refine (HBm.out _).mono ?_; rintro e w' ⟨rfl, d1, rfl⟩; rw [lay_bw])
            obtain ⟨g1, g2, g3, g4⟩ := HLH.out
            obtain ⟨de, hde⟩ := lay_fold w [.inr d1, .inr dd] [.inl (.cells #[.int .i64 (u : Int), .int .i64 (v : Int)] 116 (0, 0))]
            exact ⟨⟨_, _, de, rfl, rfl, hde, by omega, by omega, f', (HF1.out HC.out).1, (HF1.out HC.out).2⟩, by simp only [intOf]; omega⟩
        · have hhl : h = l + 1 := by omega
          have kT : IntKind.i64.wrap (16200000 + (l : Int)) = 16200000 + (l : Int) := IntWalk.i64_in _ (by omega)
          subst hhl
          have HAng : ∀ ex, ex = (decide (l = 0 ∧ (v : Int) = 0) || decide (l = 2700000 ∧ (u : Int) = (v : Int))) → AngF (u : Int) (v : Int) l ex := fun ex h => ⟨by omega, by have := HB2.out; rw [bisF_end] at this; exact this, h⟩
          have HAng := Lib.hid HAng
          have HL := Lib.hid (And.intro hlh hh)
          clear hlh hh HA HB2
          have kT0 : IntKind.i64.wrap (16200000 + (l : Int)) = (16200000 + (l : Int)) := by simpa using kT
          by_cases c1 : (l : Int) = 0
          · have n1 : ¬ (l : Int) = 2700000 := by omega
            have n2 : ¬ l = 2700000 := by omega
            by_cases c2 : (v : Int) = 0
            · have N : Hid (l = 0 ∧ (v : Int) = 0 ∧ ¬ l = 2700000 ∧ True) := Lib.hid ⟨by omega, c2, n2, trivial⟩
              go_wp2_with fail
              refine region_mixS 22 [(0, 0), (1, 0), (2, 0), (3, 0), (4, 0), (5, 0), (6, 0), (7, 0), (8, 0), (9, 0), (10, 0), (11, 0), (12, 0), (13, 0), (14, 0), (15, 0), (16, 0), (17, 0), (18, 0), (19, 0), (20, 0), (21, 0), (22, 3)] (by kernel_rfl) (by kernel_rfl) (by kernel_rfl) rfl ?_
              iterate 22 (refine wpMS_quiet rfl (fun K hK => ?_); go_simp; refine hK _ ?_; clear hK K)
              refine wpMS_store rfl (fun K hK e1 => ?_)
              rw [lay_bw]
              go_simp
              refine hK _ _ ?_
              clear hK K
              refine wpMS_nil (fun e2 => ?_)
              rw [lay_bw]
              go_wp2_with fail
              refine bodyPost_ret (v := .tuple #[.int .i64 16200000, .bool true]) (by simp [results, Tryz.results73, go_sem] <;> first | done | decide | exact kT0 | omega | (refine ⟨by first | decide | exact kT0, by omega⟩)) rfl ?_
              exact ⟨l, true, _, by first | rfl | (rw [c1]; done) | (rw [c1]; rfl) | (rw [c1]; simp), HAng.out _ (by have := N.out; simp_all <;> omega), (lay_ex _ _).choose_spec⟩
            · have c3 : ¬ v = 0 := by omega
              have N : Hid (l = 0 ∧ ¬ (v : Int) = 0 ∧ ¬ l = 2700000 ∧ True) := Lib.hid ⟨by omega, c2, n2, trivial⟩
              go_wp2_with fail
              refine region_mixS 22 [(0, 0), (1, 0), (2, 0), (3, 0), (4, 0), (5, 0), (6, 0), (7, 0), (8, 0), (9, 0), (10, 0), (11, 0), (12, 0), (13, 0), (14, 0), (15, 0), (16, 0), (17, 0), (18, 0), (19, 0), (20, 0), (21, 0), (22, 3)] (by kernel_rfl) (by kernel_rfl) (by kernel_rfl) rfl ?_
              iterate 22 (refine wpMS_quiet rfl (fun K hK => ?_); go_simp; refine hK _ ?_; clear hK K)
              refine wpMS_store rfl (fun K hK e1 => ?_)
              rw [lay_bw]
              go_simp
              refine hK _ _ ?_
              clear hK K
              refine wpMS_nil (fun e2 => ?_)
              rw [lay_bw]
              go_wp2_with fail
              refine bodyPost_ret (v := .tuple #[.int .i64 16200000, .bool false]) (by simp [results, Tryz.results73, go_sem] <;> first | done | decide | exact kT0 | omega | (refine ⟨by first | decide | exact kT0, by omega⟩)) rfl ?_
              exact ⟨l, false, _, by first | rfl | (rw [c1]; done) | (rw [c1]; rfl) | (rw [c1]; simp), HAng.out _ (by have := N.out; simp_all <;> omega), (lay_ex _ _).choose_spec⟩
          · have n1 : ¬ l = 0 := by omega
            by_cases c2 : l = 2700000
            · subst c2
              by_cases c3 : u = v
              · have c4 : (u : Int) = (v : Int) := by omega
                have N : Hid (True ∧ True ∧ True ∧ (u : Int) = (v : Int)) := Lib.hid ⟨trivial, trivial, trivial, c4⟩
                go_wp2_with fail
                refine region_mixS 22 [(0, 0), (1, 0), (2, 0), (3, 0), (4, 0), (5, 0), (6, 0), (7, 0), (8, 0), (9, 0), (10, 0), (11, 0), (12, 0), (13, 0), (14, 0), (15, 0), (16, 0), (17, 0), (18, 0), (19, 0), (20, 0), (21, 0), (22, 3)] (by kernel_rfl) (by kernel_rfl) (by kernel_rfl) rfl ?_
                iterate 22 (refine wpMS_quiet rfl (fun K hK => ?_); go_simp; refine hK _ ?_; clear hK K)
                refine wpMS_store rfl (fun K hK e1 => ?_)
                rw [lay_bw]
                go_simp
                refine hK _ _ ?_
                clear hK K
                refine wpMS_nil (fun e2 => ?_)
                rw [lay_bw]
                go_wp2_with fail
                refine bodyPost_ret (v := .tuple #[.int .i64 (16200000 + 2700000), .bool true]) (by simp [results, Tryz.results73, go_sem] <;> first | done | decide | exact kT0 | omega | (refine ⟨by first | decide | exact kT0, by omega⟩)) rfl ?_
                exact ⟨2700000, true, _, by first | rfl | (rw [c1]; done) | (rw [c1]; rfl) | (rw [c1]; simp), HAng.out _ (by have := N.out; simp_all <;> omega), (lay_ex _ _).choose_spec⟩
              · have c4 : ¬ (u : Int) = (v : Int) := by omega
                have N : Hid (True ∧ True ∧ True ∧ ¬ (u : Int) = (v : Int)) := Lib.hid ⟨trivial, trivial, trivial, c4⟩
                go_wp2_with fail
                refine region_mixS 22 [(0, 0), (1, 0), (2, 0), (3, 0), (4, 0), (5, 0), (6, 0), (7, 0), (8, 0), (9, 0), (10, 0), (11, 0), (12, 0), (13, 0), (14, 0), (15, 0), (16, 0), (17, 0), (18, 0), (19, 0), (20, 0), (21, 0), (22, 3)] (by kernel_rfl) (by kernel_rfl) (by kernel_rfl) rfl ?_
                iterate 22 (refine wpMS_quiet rfl (fun K hK => ?_); go_simp; refine hK _ ?_; clear hK K)
                refine wpMS_store rfl (fun K hK e1 => ?_)
                rw [lay_bw]
                go_simp
                refine hK _ _ ?_
                clear hK K
                refine wpMS_nil (fun e2 => ?_)
                rw [lay_bw]
                go_wp2_with fail
                refine bodyPost_ret (v := .tuple #[.int .i64 (16200000 + 2700000), .bool false]) (by simp [results, Tryz.results73, go_sem] <;> first | done | decide | exact kT0 | omega | (refine ⟨by first | decide | exact kT0, by omega⟩)) rfl ?_
                exact ⟨2700000, false, _, by first | rfl | (rw [c1]; done) | (rw [c1]; rfl) | (rw [c1]; simp), HAng.out _ (by have := N.out; simp_all <;> omega), (lay_ex _ _).choose_spec⟩
            · have c3 : ¬ (l : Int) = 2700000 := by omega
              have N : Hid (¬ l = 0 ∧ True ∧ ¬ l = 2700000 ∧ True) := Lib.hid ⟨n1, trivial, c2, trivial⟩
              go_wp2_with fail
              refine region_mixS 22 [(0, 0), (1, 0), (2, 0), (3, 0), (4, 0), (5, 0), (6, 0), (7, 0), (8, 0), (9, 0), (10, 0), (11, 0), (12, 0), (13, 0), (14, 0), (15, 0), (16, 0), (17, 0), (18, 0), (19, 0), (20, 0), (21, 0), (22, 3)] (by kernel_rfl) (by kernel_rfl) (by kernel_rfl) rfl ?_
              iterate 22 (refine wpMS_quiet rfl (fun K hK => ?_); go_simp; refine hK _ ?_; clear hK K)
              refine wpMS_store rfl (fun K hK e1 => ?_)
              rw [lay_bw]
              go_simp
              refine hK _ _ ?_
              clear hK K
              refine wpMS_nil (fun e2 => ?_)
              rw [lay_bw]
              go_wp2_with fail
              refine bodyPost_ret (v := .tuple #[.int .i64 (16200000 + (l : Int)), .bool false]) (by simp [results, Tryz.results73, go_sem] <;> first | done | decide | exact kT0 | omega | (refine ⟨by first | decide | exact kT0, by omega⟩)) rfl ?_
              exact ⟨l, false, _, by first | rfl | (rw [c1]; done) | (rw [c1]; rfl) | (rw [c1]; simp), HAng.out _ (by have := N.out; simp_all <;> omega), (lay_ex _ _).choose_spec⟩
theorem ar_angF3z (u : Nat) (b : Int) (hu0 : 0 < u) (hu : u ≤ 2147483648) (hb : b = -(u : Int)) (w : World) :
    Calls Tryz.prog 73 #[.agg #[.int .i64 ((0 : Nat) : Int), .int .i64 b]] w fun e w' => ∃ (k : Nat) (ex : Bool) (d : Ext), e = .returned (.tuple #[.int .i64 (16200000 + (k : Int)), .bool ex]) ∧ AngF u (0 : Nat) k ex ∧ w' = bw w d := by
  have a3 : ¬ (0 : Int) < b := by omega
  have a5 : (0 : Int) < (u : Int) := by omega
  have k2 : IntKind.i64.wrap (-b) = (u : Int) := by rw [hb, Int.neg_neg]; exact IntWalk.i64_in _ (by omega)
  have t1 : IntKind.i64.wrap ((0 : Int) + 5400000) = 5400000 := by decide
  have t2 : IntKind.i64.wrap ((5400000 : Int) + 5400000) = 10800000 := by decide
  have t3 : IntKind.i64.wrap ((10800000 : Int) + 5400000) = 16200000 := by decide
  have hv : (0 : Nat) ≤ 2147483648 := by decide
  obtain ⟨v, hv0⟩ : ∃ v : Nat, v = 0 := ⟨0, rfl⟩
  rw [← hv0]
  have a1 : ¬ (0 : Int) < (v : Int) := by omega
  have a6 : (0 : Int) ≤ (v : Int) := by omega
  have k1 : IntKind.i64.wrap (-(v : Int)) = (v : Int) := by rw [hv0]; decide
  have hv : v ≤ 2147483648 := by omega
  clear hb hv0
  refine lay_start ?_
  go_enter Tryz.func73, Tryz.ntmps73
  go_wp2_with fail
  go_loopw [4] (fun v4 wr => (v4 = .int .i64 0 ∧ wr = lay w [.inl (.cells #[.int .i64 (v : Int), .int .i64 b] 116 (0, 0))]) ∨ (v4 = .int .i64 5400000 ∧ wr = lay w [.inl (.cells #[.int .i64 b, .int .i64 (v : Int)] 116 (0, 0))]) ∨ (v4 = .int .i64 10800000 ∧ wr = lay w [.inl (.cells #[.int .i64 (v : Int), .int .i64 (u : Int)] 116 (0, 0))]) ∨ (v4 = .int .i64 16200000 ∧ wr = lay w [.inl (.cells #[.int .i64 (u : Int), .int .i64 (v : Int)] 116 (0, 0))])) (fun v4 _ => (21600000 - intOf v4).toNat)
  case atStart => exact .inl ⟨rfl, rfl⟩
  case round =>
    rcases hrel with ⟨rfl, rfl⟩ | ⟨rfl, rfl⟩ | ⟨rfl, rfl⟩ | ⟨rfl, rfl⟩
    · go_wp2_with fail
      exact ⟨.inr (.inl ⟨by first | rfl | decide, by first | rfl | trivial⟩), by first | decide | (simp only [intOf]; decide)⟩
    · go_wp2_with fail
      exact ⟨.inr (.inr (.inl ⟨by first | rfl | decide, by first | rfl | trivial⟩)), by first | decide | (simp only [intOf]; decide)⟩
    · go_wp2_with fail
      exact ⟨.inr (.inr (.inr ⟨by first | rfl | decide, by first | rfl | trivial⟩)), by first | decide | (simp only [intOf]; decide)⟩
    · go_wp2_with fail
      go_loopw [5, 6] (fun v5 v6 wr => ∃ (l h : Nat) (dd : Ext), v5 = .int .i64 (l : Int) ∧ v6 = .int .i64 (h : Int) ∧ wr = lay w (.inr dd :: [.inl (.cells #[.int .i64 (u : Int), .int .i64 (v : Int)] 116 (0, 0))]) ∧ l < h ∧ h ≤ 5400000 ∧ ∃ f, h - l ≤ 2 ^ f ∧ bisF (u : Int) (v : Int) f l h = bisF (u : Int) (v : Int) 23 0 5400000) (fun v5 v6 _ => (intOf v6 - intOf v5).toNat)
      case atStart => exact ⟨0, 5400000, noExt _, rfl, rfl, (bw_noExt _).symm, by decide, by decide, 23, by decide, rfl⟩
      case round =>
        obtain ⟨l, h, dd, rfl, rfl, rfl, hlh, hh, f, hA, hB⟩ := hrel
        have HA := Lib.hid hA
        have HB2 := Lib.hid hB
        clear hA hB
        have k1 : IntKind.i64.wrap ((h : Int) - (l : Int)) = (h : Int) - (l : Int) := IntWalk.i64_in _ (by omega)
        by_cases c : (1 : Int) < (h : Int) - (l : Int)
        · obtain ⟨XQ, hXQ⟩ : ∃ XQ : Int, (l : Int) + (h : Int) = XQ := ⟨_, rfl⟩
          obtain ⟨m, hm⟩ : ∃ m : Nat, XQ.tdiv 2 = (m : Int) := ⟨(XQ.tdiv 2).toNat, by rw [Int.tdiv_eq_ediv_of_nonneg (by omega)]; omega⟩
          have k2 : IntKind.i64.wrap ((l : Int) + (h : Int)) = XQ := by rw [hXQ]; exact IntWalk.i64_in _ (by omega)
          have hmid : m = (l + h) / 2 := by rw [Int.tdiv_eq_ediv_of_nonneg (by omega)] at hm; omega
          obtain ⟨f', hf0, hf1⟩ := bisF_step (u := (u : Int)) (v := (v : Int)) hmid (by omega) HA.out
          rw [HB2.out] at hf0 hf1
          have HF0 := Lib.hid hf0
          have HF1 := Lib.hid hf1
          clear hmid hf0 hf1
          have hml : l < m ∧ m < h := by rw [Int.tdiv_eq_ediv_of_nonneg (by omega)] at hm; omega
          have k3 : IntKind.i64.wrap (m : Int) = (m : Int) := IntWalk.i64_in _ (by omega)
          have HBm := Lib.hid (fun W => ar_reaches u v m (by omega) (by omega) (by omega) W)
          have HLH := Lib.hid (And.intro hlh (And.intro hh hml))
          clear hXQ hlh hh hml
          cases cb : rchB (u : Int) (v : Int) m
          · rw [cb] at HBm
            have HC := Lib.hid cb
            clear cb
            go_wp2_with (go_at_call 108; refine (HBm.out _).mono ?_; rintro e w' ⟨rfl, d1, rfl⟩; rw [lay_bw])
            obtain ⟨g1, g2, g3, g4⟩ := HLH.out
            obtain ⟨de, hde⟩ := lay_fold w [.inr d1, .inr dd] [.inl (.cells #[.int .i64 (u : Int), .int .i64 (v : Int)] 116 (0, 0))]
            exact ⟨⟨_, _, de, rfl, rfl, hde, by omega, by omega, f', (HF0.out HC.out).1, (HF0.out HC.out).2⟩, by simp only [intOf]; omega⟩
          · rw [cb] at HBm
            have HC := Lib.hid cb
            clear cb
            go_wp2_with (go_at_call 108; refine (HBm.out _).mono ?_; rintro e w' ⟨rfl, d1, rfl⟩; rw [lay_bw])
            obtain ⟨g1, g2, g3, g4⟩ := HLH.out
            obtain ⟨de, hde⟩ := lay_fold w [.inr d1, .inr dd] [.inl (.cells #[.int .i64 (u : Int), .int .i64 (v : Int)] 116 (0, 0))]
            exact ⟨⟨_, _, de, rfl, rfl, hde, by omega, by omega, f', (HF1.out HC.out).1, (HF1.out HC.out).2⟩, by simp only [intOf]; omega⟩
        · have hhl : h = l + 1 := by omega
          have kT : IntKind.i64.wrap (16200000 + (l : Int)) = 16200000 + (l : Int) := IntWalk.i64_in _ (by omega)
          subst hhl
          have HAng : ∀ ex, ex = (decide (l = 0 ∧ (v : Int) = 0) || decide (l = 2700000 ∧ (u : Int) = (v : Int))) → AngF (u : Int) (v : Int) l ex := fun ex h => ⟨by omega, by have := HB2.out; rw [bisF_end] at this; exact this, h⟩
          have HAng := Lib.hid HAng
          have HL := Lib.hid (And.intro hlh hh)
          clear hlh hh HA HB2
          have kT0 : IntKind.i64.wrap (16200000 + (l : Int)) = (16200000 + (l : Int)) := by simpa using kT
          by_cases c1 : (l : Int) = 0
          · have n1 : ¬ (l : Int) = 2700000 := by omega
            have n2 : ¬ l = 2700000 := by omega
            by_cases c2 : (v : Int) = 0
            · have N : Hid (l = 0 ∧ (v : Int) = 0 ∧ ¬ l = 2700000 ∧ True) := Lib.hid ⟨by omega, c2, n2, trivial⟩
              go_wp2_with fail
              refine region_mixS 22 [(0, 0), (1, 0), (2, 0), (3, 0), (4, 0), (5, 0), (6, 0), (7, 0), (8, 0), (9, 0), (10, 0), (11, 0), (12, 0), (13, 0), (14, 0), (15, 0), (16, 0), (17, 0), (18, 0), (19, 0), (20, 0), (21, 0), (22, 3)] (by kernel_rfl) (by kernel_rfl) (by kernel_rfl) rfl ?_
              iterate 22 (refine wpMS_quiet rfl (fun K hK => ?_); go_simp; refine hK _ ?_; clear hK K)
              refine wpMS_store rfl (fun K hK e1 => ?_)
              rw [lay_bw]
              go_simp
              refine hK _ _ ?_
              clear hK K
              refine wpMS_nil (fun e2 => ?_)
              rw [lay_bw]
              go_wp2_with fail
              refine bodyPost_ret (v := .tuple #[.int .i64 16200000, .bool true]) (by simp [results, Tryz.results73, go_sem] <;> first | done | decide | exact kT0 | omega | (refine ⟨by first | decide | exact kT0, by omega⟩)) rfl ?_
              exact ⟨l, true, _, by first | rfl | (rw [c1]; done) | (rw [c1]; rfl) | (rw [c1]; simp), HAng.out _ (by have := N.out; simp_all <;> omega), (lay_ex _ _).choose_spec⟩
            · have c3 : ¬ v = 0 := by omega
              have N : Hid (l = 0 ∧ ¬ (v : Int) = 0 ∧ ¬ l = 2700000 ∧ True) := Lib.hid ⟨by omega, c2, n2, trivial⟩
              go_wp2_with fail
              refine region_mixS 22 [(0, 0), (1, 0), (2, 0), (3, 0), (4, 0), (5, 0), (6, 0), (7, 0), (8, 0), (9, 0), (10, 0), (11, 0), (12, 0), (13, 0), (14, 0), (15, 0), (16, 0), (17, 0), (18, 0), (19, 0), (20, 0), (21, 0), (22, 3)] (by kernel_rfl) (by kernel_rfl) (by kernel_rfl) rfl ?_
              iterate 22 (refine wpMS_quiet rfl (fun K hK => ?_); go_simp; refine hK _ ?_; clear hK K)
              refine wpMS_store rfl (fun K hK e1 => ?_)
              rw [lay_bw]
              go_simp
              refine hK _ _ ?_
              clear hK K
              refine wpMS_nil (fun e2 => ?_)
              rw [lay_bw]
              go_wp2_with fail
              refine bodyPost_ret (v := .tuple #[.int .i64 16200000, .bool false]) (by simp [results, Tryz.results73, go_sem] <;> first | done | decide | exact kT0 | omega | (refine ⟨by first | decide | exact kT0, by omega⟩)) rfl ?_
              exact ⟨l, false, _, by first | rfl | (rw [c1]; done) | (rw [c1]; rfl) | (rw [c1]; simp), HAng.out _ (by have := N.out; simp_all <;> omega), (lay_ex _ _).choose_spec⟩
          · have n1 : ¬ l = 0 := by omega
            by_cases c2 : l = 2700000
            · subst c2
              by_cases c3 : u = v
              · have c4 : (u : Int) = (v : Int) := by omega
                have N : Hid (True ∧ True ∧ True ∧ (u : Int) = (v : Int)) := Lib.hid ⟨trivial, trivial, trivial, c4⟩
                go_wp2_with fail
                refine region_mixS 22 [(0, 0), (1, 0), (2, 0), (3, 0), (4, 0), (5, 0), (6, 0), (7, 0), (8, 0), (9, 0), (10, 0), (11, 0), (12, 0), (13, 0), (14, 0), (15, 0), (16, 0), (17, 0), (18, 0), (19, 0), (20, 0), (21, 0), (22, 3)] (by kernel_rfl) (by kernel_rfl) (by kernel_rfl) rfl ?_
                iterate 22 (refine wpMS_quiet rfl (fun K hK => ?_); go_simp; refine hK _ ?_; clear hK K)
                refine wpMS_store rfl (fun K hK e1 => ?_)
                rw [lay_bw]
                go_simp
                refine hK _ _ ?_
                clear hK K
                refine wpMS_nil (fun e2 => ?_)
                rw [lay_bw]
                go_wp2_with fail
                refine bodyPost_ret (v := .tuple #[.int .i64 (16200000 + 2700000), .bool true]) (by simp [results, Tryz.results73, go_sem] <;> first | done | decide | exact kT0 | omega | (refine ⟨by first | decide | exact kT0, by omega⟩)) rfl ?_
                exact ⟨2700000, true, _, by first | rfl | (rw [c1]; done) | (rw [c1]; rfl) | (rw [c1]; simp), HAng.out _ (by have := N.out; simp_all <;> omega), (lay_ex _ _).choose_spec⟩
              · have c4 : ¬ (u : Int) = (v : Int) := by omega
                have N : Hid (True ∧ True ∧ True ∧ ¬ (u : Int) = (v : Int)) := Lib.hid ⟨trivial, trivial, trivial, c4⟩
                go_wp2_with fail
                refine region_mixS 22 [(0, 0), (1, 0), (2, 0), (3, 0), (4, 0), (5, 0), (6, 0), (7, 0), (8, 0), (9, 0), (10, 0), (11, 0), (12, 0), (13, 0), (14, 0), (15, 0), (16, 0), (17, 0), (18, 0), (19, 0), (20, 0), (21, 0), (22, 3)] (by kernel_rfl) (by kernel_rfl) (by kernel_rfl) rfl ?_
                iterate 22 (refine wpMS_quiet rfl (fun K hK => ?_); go_simp; refine hK _ ?_; clear hK K)
                refine wpMS_store rfl (fun K hK e1 => ?_)
                rw [lay_bw]
                go_simp
                refine hK _ _ ?_
                clear hK K
                refine wpMS_nil (fun e2 => ?_)
                rw [lay_bw]
                go_wp2_with fail
                refine bodyPost_ret (v := .tuple #[.int .i64 (16200000 + 2700000), .bool false]) (by simp [results, Tryz.results73, go_sem] <;> first | done | decide | exact kT0 | omega | (refine ⟨by first | decide | exact kT0, by omega⟩)) rfl ?_
                exact ⟨2700000, false, _, by first | rfl | (rw [c1]; done) | (rw [c1]; rfl) | (rw [c1]; simp), HAng.out _ (by have := N.out; simp_all <;> omega), (lay_ex _ _).choose_spec⟩
            · have c3 : ¬ (l : Int) = 2700000 := by omega
              have N : Hid (¬ l = 0 ∧ True ∧ ¬ l = 2700000 ∧ True) := Lib.hid ⟨n1, trivial, c2, trivial⟩
              go_wp2_with fail
              refine region_mixS 22 [(0, 0), (1, 0), (2, 0), (3, 0), (4, 0), (5, 0), (6, 0), (7, 0), (8, 0), (9, 0), (10, 0), (11, 0), (12, 0), (13, 0), (14, 0), (15, 0), (16, 0), (17, 0), (18, 0), (19, 0), (20, 0), (21, 0), (22, 3)] (by kernel_rfl) (by kernel_rfl) (by kernel_rfl) rfl ?_
              iterate 22 (refine wpMS_quiet rfl (fun K hK => ?_); go_simp; refine hK _ ?_; clear hK K)
              refine wpMS_store rfl (fun K hK e1 => ?_)
              rw [lay_bw]
              go_simp
              refine hK _ _ ?_
              clear hK K
              refine wpMS_nil (fun e2 => ?_)
              rw [lay_bw]
              go_wp2_with fail
              refine bodyPost_ret (v := .tuple #[.int .i64 (16200000 + (l : Int)), .bool false]) (by simp [results, Tryz.results73, go_sem] <;> first | done | decide | exact kT0 | omega | (refine ⟨by first | decide | exact kT0, by omega⟩)) rfl ?_
              exact ⟨l, false, _, by first | rfl | (rw [c1]; done) | (rw [c1]; rfl) | (rw [c1]; simp), HAng.out _ (by have := N.out; simp_all <;> omega), (lay_ex _ _).choose_spec⟩
end Go.Proofs.YtkhhdpndcidmgaaGreat
