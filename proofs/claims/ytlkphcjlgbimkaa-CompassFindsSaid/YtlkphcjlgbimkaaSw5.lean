/- The reference's Swing: the errors ahead of the loops. -/
import Derived.Test.YtlkphcjlgbimkaaProg
import Derived.Test.YtlkphcjlgbimkaaLay
import Derived.Test.YtlkphcjlgbimkaaRegion
import Derived.Test.YtlkphcjlgbimkaaMix
import Derived.WalkKit
import Derived.WalkSpells
import Derived.WalkLawsBesides
import Derived.Lib.Hide
import Derived.BigQuiet
import Derived.Test.YtlkphcjlgbimkaaSw3
import Derived.Test.YtlkphcjlgbimkaaRowS
import Derived.Test.YtlkphcjlgbimkaaComp11
namespace Go.Proofs.Ytlkphcjlgbimkaa
open Go.RowKit

theorem bv_or {B V : Int} (h : (headB B && withB V 10800000) = false) : B < 0 ∨ (¬ B < 0 ∧ 21600000 ≤ B) ∨ (¬ B < 0 ∧ ¬ 21600000 ≤ B ∧ V < -10800000) ∨ (¬ B < 0 ∧ ¬ 21600000 ≤ B ∧ ¬ V < -10800000 ∧ 10800000 < V) := by
  simp only [headB, withB, Bool.and_eq_false_iff, decide_eq_false_iff_not] at h
  omega
set_option maxHeartbeats 1000000 in
theorem ref_Swing_bad (v0 v1 : Value) (h b : List Int) (B V : Int) (w : World) (h0 : Sl w v0 h) (h1 : Sl w v1 b) (hbad : h.length ≠ b.length ∨ h.length = 0 ∨ (headB B && withB V 10800000) = false) :
    Calls Try.prog 7 #[v0, v1, .int .i64 B, .int .i64 V] w (SwgP w (swgL h b B V) (swgE h b B V)) := by
  obtain ⟨a0, c0, rfl, -⟩ := h0
  obtain ⟨a1, c1, rfl, -⟩ := h1
  have hE : swgE h b B V = if h.length ≠ b.length then 3 else if h.length = 0 then 14 else if swgR h b B V = false then 2
    else if OneH (entH h b B V h.length) then (if vB (srtH (entH h b B V h.length) h.length) = true then 0 else 1) else 10 := rfl
  have hL : swgL h b B V = if swgE h b B V = 0 then srtH (entH h b B V h.length) h.length else [] := rfl
  by_cases e1 : h.length = b.length
  · rw [if_neg (fun h => h e1)] at hE
    by_cases e2 : h.length = 0
    · rw [if_pos e2] at hE
      rw [hL, hE, if_neg (by decide)]
      have t1 : ((h.length : Int) == (b.length : Int)) = true := beq_iff_eq.2 (by omega)
      have t2 : ((h.length : Int) == 0) = true := beq_iff_eq.2 (by omega)
      have t3 : ((h.length : Int) != (b.length : Int)) = false := by rw [bne, t1]; rfl
      clear hL hE hbad e1 e2
      generalize h.length = m at *
      generalize b.length = q at *
      refine lay_start ?_
      go_enter Try.func7, Try.ntmps7
      go_wp2
      exact bodyPost_ret (v := .tuple #[.slice none 0 0, .int .i64 14]) (by simp [results, Try.results7, go_sem]) rfl (swgP_nil w [] 14)
    · rw [if_neg e2] at hE
      have e3 : (headB B && withB V 10800000) = false := by
        rcases hbad with h | h | h
        · exact absurd e1 h
        · exact absurd h e2
        · exact h
      have e4 : swgR h b B V = false := by
        unfold swgR
        rw [Bool.and_assoc, e3, Bool.and_false]
      rw [if_pos e4] at hE
      rw [hL, hE, if_neg (by decide)]
      have t1 : ((h.length : Int) == (b.length : Int)) = true := beq_iff_eq.2 (by omega)
      have t2 : ((h.length : Int) == 0) = false := beq_eq_false_iff_ne.2 (by omega)
      have t3 : ((h.length : Int) != (b.length : Int)) = false := by rw [bne, t1]; rfl
      have hv := bv_or e3
      clear hL hE hbad e3 e4 e1 e2 t1
      generalize h.length = m at *
      generalize b.length = q at *
      rcases hv with x | ⟨x, y⟩ | ⟨x, y, z⟩ | ⟨x, y, z, u⟩
      all_goals
        refine lay_start ?_
        go_enter Try.func7, Try.ntmps7
        go_wp2
        exact bodyPost_ret (v := .tuple #[.slice none 0 0, .int .i64 2]) (by simp [results, Try.results7, go_sem]) rfl (swgP_nil w [] 2)
  · rw [if_pos e1] at hE
    rw [hL, hE, if_neg (by decide)]
    have t1 : ((h.length : Int) == (b.length : Int)) = false := beq_eq_false_iff_ne.2 (by omega)
    have t3 : ((h.length : Int) != (b.length : Int)) = true := by rw [bne, t1]; rfl
    clear hL hE hbad e1
    generalize h.length = m at *
    generalize b.length = q at *
    refine lay_start ?_
    go_enter Try.func7, Try.ntmps7
    go_wp2
    exact bodyPost_ret (v := .tuple #[.slice none 0 0, .int .i64 3]) (by simp [results, Try.results7, go_sem]) rfl (swgP_nil w [] 3)
end Go.Proofs.Ytlkphcjlgbimkaa
