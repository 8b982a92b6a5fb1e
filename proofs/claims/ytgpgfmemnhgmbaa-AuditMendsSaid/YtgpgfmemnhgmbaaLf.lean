/- AuditFinds walked. -/
import Derived.Test.YtgpgfmemnhgmbaaProg
import Derived.Test.YtgpgfmemnhgmbaaLay
import Derived.Test.YtgpgfmemnhgmbaaRegion
import Derived.Test.YtgpgfmemnhgmbaaMix
import Derived.WalkKit
import Derived.WalkSpells
import Derived.WalkLawsBesides
import Derived.Lib.Hide
import Derived.BigQuiet
import Derived.Test.YtgpgfmemnhgmbaaPlain
import Derived.Test.YtgpgfmemnhgmbaaAngle
import Derived.Test.YtgpgfmemnhgmbaaAud13
import Derived.Test.YtgpgfmemnhgmbaaAud14
import Derived.Test.YtgpgfmemnhgmbaaRe10
import Derived.Test.YtgpgfmemnhgmbaaMnd
namespace Go.Proofs.Ytgpgfmemnhgmbaa
open Go.RowKit

theorem wf_u16_15 {a : Int} (h : (Lit.int .u16 a).wf = true) : 0 ≤ a ∧ a ≤ 65535 := by simpa [Lit.wf, IntKind.min, IntKind.max, IntKind.bits, IntKind.signed] using h
theorem wf_u8_15 {a : Int} (h : (Lit.int .u8 a).wf = true) : 0 ≤ a ∧ a ≤ 255 := by simpa [Lit.wf, IntKind.min, IntKind.max, IntKind.bits, IntKind.signed] using h
theorem wf_i32_15 {a : Int} (h : (Lit.int .i32 a).wf = true) : -2147483648 ≤ a ∧ a ≤ 2147483647 := by simpa [Lit.wf, IntKind.min, IntKind.max, IntKind.bits, IntKind.signed] using h
set_option maxHeartbeats 4000000 in
set_option maxRecDepth 100000 in
/-- The ways out ahead of the first call of Possible. -/
theorem law15_Finds_out (v : Value) (l : List Int) {w : World} (hs : Sl w v l) (bend : Int) (bb : 0 ≤ bend ∧ bend ≤ 65535) (at_ : Int) (ch : Int) (bc : -2147483648 ≤ ch ∧ ch ≤ 2147483647)
    (h : 40 < l.length ∨ givE false l ≠ 0 ∨ (-(bend % 1001) - 2 ≤ ch ∧ ch ≤ bend % 1001 + 2)) :
    Calls Try.prog 9 #[v, .int .u16 bend, .int .u8 at_, .int .i32 ch] w fun e w' => e = .returned (.bool true) ∧ ∃ d, w' = bw w d := by
  have HS := Lib.hid hs
  have HG := Lib.hid (fun W (h : Sl W v l) => re_Given v l false W h)
  obtain ⟨b0, b1⟩ := bb
  obtain ⟨c0, c1⟩ := bc
  obtain ⟨B, hB⟩ : ∃ B, bend % 1001 = B := ⟨_, rfl⟩
  have tB : bend.tmod 1001 = B := by rw [Int.tmod_eq_emod_of_nonneg b0]; exact hB
  have B0 : 0 ≤ B := by omega
  have B1 : B ≤ 1000 := by omega
  rw [hB] at h
  have x0 : IntKind.i32.wrap B = B := IntWalk.i32_in _ (by omega)
  have x1 : IntKind.i32.wrap (-B) = -B := IntWalk.i32_in _ (by omega)
  have x2 : IntKind.i32.wrap (-B - 2) = -B - 2 := IntWalk.i32_in _ (by omega)
  have x3 : IntKind.i32.wrap (B + 2) = B + 2 := IntWalk.i32_in _ (by omega)
  clear hB
  obtain ⟨a1, c1', hv1, -⟩ := hs
  subst hv1
  generalize givE false l = E at *
  generalize l.length = m at *
  by_cases h1 : 40 < m
  · have t1 : decide ((40 : Int) < (m : Int)) = true := decide_eq_true (by omega)
    refine lay_start ?_
    go_enter Try.func9, Try.ntmps9
    go_wp2_with (first | (go_at_call 10; with_reducible refine (law15_awake _).mono ?_; rintro e w' ⟨rfl, d, rfl⟩))
    go_ret
    exact ⟨rfl, lay_ex _ _⟩
  · have t1 : decide ((40 : Int) < (m : Int)) = false := decide_eq_false (by omega)
    by_cases h2 : E = 0
    · subst h2
      have h3 : -B - 2 ≤ ch ∧ ch ≤ B + 2 := by
        rcases h with h | h | h
        · exact absurd h h1
        · exact absurd rfl h
        · exact h
      obtain ⟨h3, h4⟩ := h3
      have t2 : decide (-B - 2 ≤ ch) = true := decide_eq_true h3
      have t3 : decide (ch ≤ B + 2) = true := decide_eq_true h4
      refine lay_start ?_
      go_enter Try.func9, Try.ntmps9
      go_wp2_with (first | (go_at_call 10; with_reducible refine (law15_awake _).mono ?_; rintro e w' ⟨rfl, d, rfl⟩) | (go_at_call 13; with_reducible refine (HG.out _ (HS.out.lay _)).mono ?_; rintro e w' ⟨rfl, rfl⟩))
      go_ret
      exact ⟨rfl, lay_ex _ _⟩
    · have t2 : (E == 0) = false := beq_eq_false_iff_ne.2 h2
      refine lay_start ?_
      go_enter Try.func9, Try.ntmps9
      go_wp2_with (first | (go_at_call 10; with_reducible refine (law15_awake _).mono ?_; rintro e w' ⟨rfl, d, rfl⟩) | (go_at_call 13; with_reducible refine (HG.out _ (HS.out.lay _)).mono ?_; rintro e w' ⟨rfl, rfl⟩))
      go_ret
      exact ⟨rfl, lay_ex _ _⟩
set_option maxHeartbeats 4000000 in
set_option maxRecDepth 100000 in
/-- The list is not possible: a way out. -/
theorem law15_Finds_not (v : Value) (l : List Int) {w : World} (hs : Sl w v l) (bend : Int) (bb : 0 ≤ bend ∧ bend ≤ 65535) (at_ : Int) (ch : Int) (bc : -2147483648 ≤ ch ∧ ch ≤ 2147483647)
    (hn : l.length ≤ 40) (hg : Giv false l) (hc : bend % 1001 + 2 < ch ∨ ch < -(bend % 1001) - 2) (hp : ¬ Poss false l (bend % 1001)) :
    Calls Try.prog 9 #[v, .int .u16 bend, .int .u8 at_, .int .i32 ch] w fun e w' => e = .returned (.bool true) ∧ ∃ d, w' = bw w d := by
  have HS := Lib.hid hs
  have HG := Lib.hid (fun W (h : Sl W v l) => re_Given v l false W h)
  rw [giv_iff.2 hg] at HG
  obtain ⟨b0, b1⟩ := bb
  obtain ⟨c0, c1⟩ := bc
  obtain ⟨B, hB⟩ : ∃ B, bend % 1001 = B := ⟨_, rfl⟩
  have tB : bend.tmod 1001 = B := by rw [Int.tmod_eq_emod_of_nonneg b0]; exact hB
  have B0 : 0 ≤ B := by omega
  have B1 : B ≤ 1000 := by omega
  rw [hB] at hc hp
  have x0 : IntKind.i32.wrap B = B := IntWalk.i32_in _ (by omega)
  have x1 : IntKind.i32.wrap (-B) = -B := IntWalk.i32_in _ (by omega)
  have x2 : IntKind.i32.wrap (-B - 2) = -B - 2 := IntWalk.i32_in _ (by omega)
  have x3 : IntKind.i32.wrap (B + 2) = B + 2 := IntWalk.i32_in _ (by omega)
  clear hB
  have HP := Lib.hid (fun W (h : Sl W v l) => aud_Possible v l false B W h)
  have e0 : gvE false l B = 0 := gvE_0.2 ⟨hg, B0, B1⟩
  have e1 : posB false l B = false := by
    cases h : posB false l B
    · rfl
    · exact absurd ((posB_iff e0).1 h) hp
  rw [e0, e1] at HP
  clear e0 e1 hp hg
  generalize posK false l B = K at *
  obtain ⟨a1, c1', hv1, -⟩ := hs
  subst hv1
  generalize l.length = m at *
  have t1 : decide ((40 : Int) < (m : Int)) = false := decide_eq_false (by omega)
  by_cases h3 : -B - 2 ≤ ch
  · have t2 : decide (-B - 2 ≤ ch) = true := decide_eq_true h3
    have t3 : decide (ch ≤ B + 2) = false := decide_eq_false (by omega)
    refine lay_start ?_
    go_enter Try.func9, Try.ntmps9
    go_wp2_with (first | (go_at_call 10; with_reducible refine (law15_awake _).mono ?_; rintro e w' ⟨rfl, d, rfl⟩) | (go_at_call 13; with_reducible refine (HG.out _ (HS.out.lay _)).mono ?_; rintro e w' ⟨rfl, rfl⟩) | (go_at_call 16; with_reducible refine (HP.out _ (HS.out.lay _)).mono ?_; rintro e w' ⟨rfl, d, rfl⟩))
    go_ret
    exact ⟨rfl, lay_ex _ _⟩
  · have t2 : decide (-B - 2 ≤ ch) = false := decide_eq_false h3
    refine lay_start ?_
    go_enter Try.func9, Try.ntmps9
    go_wp2_with (first | (go_at_call 10; with_reducible refine (law15_awake _).mono ?_; rintro e w' ⟨rfl, d, rfl⟩) | (go_at_call 13; with_reducible refine (HG.out _ (HS.out.lay _)).mono ?_; rintro e w' ⟨rfl, rfl⟩) | (go_at_call 16; with_reducible refine (HP.out _ (HS.out.lay _)).mono ?_; rintro e w' ⟨rfl, d, rfl⟩))
    go_ret
    exact ⟨rfl, lay_ex _ _⟩
end Go.Proofs.Ytgpgfmemnhgmbaa
