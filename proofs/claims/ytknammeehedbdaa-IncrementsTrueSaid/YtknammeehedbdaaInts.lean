/- Slices of ints that are read: what 'reads as this list' is; slices.Equal. -/
import Derived.Test.YtknammeehedbdaaProg
import Derived.Test.YtknammeehedbdaaLay
import Derived.Test.YtknammeehedbdaaRegion
import Derived.Test.YtknammeehedbdaaMix
import Derived.WalkKit
import Derived.WalkSpells
import Derived.WalkLawsBesides
import Derived.Lib.Hide
import Derived.BigQuiet
namespace Go.Proofs.Ytknammeehedbdaa
open Go.RowKit

/-- The value is a slice that reads, in this world, as these ints. -/
def Ints (w : World) (v : Value) (l : List Int) : Prop :=
  ∃ a cap, v = .slice a l.length cap ∧ l.length ≤ 1152921504606846976 ∧ (l ≠ [] → ∃ b o, a = some ⟨b, o, none⟩ ∧ b < w.heap.size ∧ ∀ i, i < l.length → w.cell? ⟨b, o + i, none⟩ = some (.int .i64 (l.getD i 0)))
theorem Ints.bw {w : World} {v : Value} {l : List Int} (h : Ints w v l) (d : Ext) : Ints (bw w d) v l := by
  obtain ⟨a, cap, h1, h2, h3⟩ := h
  refine ⟨a, cap, h1, h2, fun hl => ?_⟩
  obtain ⟨b, o, h4, h5, h6⟩ := h3 hl
  exact ⟨b, o, h4, Nat.lt_of_lt_of_le h5 (bw_le w d), fun i hi => (bw_cell w d b (o + i) h5).trans (h6 i hi)⟩
theorem Ints.alloc {w : World} {v : Value} {l : List Int} (h : Ints w v l) (x : Obj) : Ints (w.alloc x) v l := by
  obtain ⟨a, cap, h1, h2, h3⟩ := h
  refine ⟨a, cap, h1, h2, fun hl => ?_⟩
  obtain ⟨b, o, h4, h5, h6⟩ := h3 hl
  exact ⟨b, o, h4, by simp; omega, fun i hi => (World.cell?_alloc_past _ _ _ h5).trans (h6 i hi)⟩
theorem Ints.of_row {w : World} {base n : Nat} {v : Value} {l : List Int} (h : w.ownsRow base 3 1 v n (l.map (Value.int .i64))) (hl : l.length ≤ 1152921504606846976) : Ints w v l := by
  have hn : n = l.length := by have := h.1; simpa using this.symm
  subst hn
  rcases h.2 with ⟨rfl, hz⟩ | ⟨g, cap, cur, rfl, _, hg, _⟩
  · exact ⟨none, 0, by rw [hz], hl, fun hne => absurd (List.eq_nil_of_length_eq_zero hz) hne⟩
  · refine ⟨_, cap, rfl, hl, fun _ => ⟨g, 0, rfl, (Array.getElem?_eq_some_iff.1 hg).1, fun i hi => ?_⟩⟩
    rw [Nat.zero_add, h.cellAt i (by omega)]
    simp [List.getD, hi]
theorem Ints.nil (w : World) : Ints w (.slice none 0 0) [] := ⟨none, 0, rfl, by simp, fun h => absurd rfl h⟩

theorem take_succ_eq {l1 l2 : List Int} {k : Nat} (hk : k < l1.length) (hl : l1.length = l2.length) (h : l1.take k = l2.take k) (he : l1[k]?.getD 0 = l2[k]?.getD 0) : l1.take (k + 1) = l2.take (k + 1) := by
  have hk2 : k < l2.length := by omega
  rw [List.take_add_one, List.take_add_one, h]
  simp only [List.getElem?_eq_getElem hk, List.getElem?_eq_getElem hk2, Option.getD_some] at he ⊢
  rw [he]
theorem take_ne {l1 l2 : List Int} {k : Nat} (he : ¬ l1[k]?.getD 0 = l2[k]?.getD 0) : decide (l1 = l2) = false := by
  simp only [decide_eq_false_iff_not]
  rintro rfl
  exact he rfl
set_option maxHeartbeats 1000000 in
theorem slices_Equal (v1 v2 : Value) (l1 l2 : List Int) (w : World) (h1 : Ints w v1 l1) (h2 : Ints w v2 l2) :
    Calls Try.prog 19 #[v1, v2] w fun e w' => e = .returned (.bool (decide (l1 = l2))) ∧ ∃ d, w' = bw w d := by
  obtain ⟨a1, c1, rfl, g1, k1⟩ := h1
  obtain ⟨a2, c2, rfl, g2, k2⟩ := h2
  by_cases hlen : l1.length = l2.length
  · by_cases hz : l1 = []
    · have hz2 : l2 = [] := List.eq_nil_of_length_eq_zero (by rw [← hlen, hz]; rfl)
      subst hz hz2
      clear k1 k2 hlen g1 g2
      go_enter Try.func19, Try.ntmps19
      go_wp2_with fail
      refine wp_loop_rounds 1 ?_
      rw [rounds_succ]
      go_wp2
      go_ret
      exact ⟨rfl, lay_ex _ []⟩
    · have hz2 : l2 ≠ [] := fun h => hz (List.eq_nil_of_length_eq_zero (by rw [hlen, h]; rfl))
      obtain ⟨b1, o1, rfl, s1, r1⟩ := k1 hz
      obtain ⟨b2, o2, rfl, s2, r2⟩ := k2 hz2
      obtain ⟨n, hn⟩ : ∃ n, n = l1.length := ⟨_, rfl⟩
      have hn2 : n = l2.length := hn.trans hlen
      rw [← hn, ← hn2]
      rw [← hn] at g1 r1
      rw [← hn2] at r2
      have HN := Lib.hid hn
      have HN2 := Lib.hid hn2
      have HR1 := Lib.hid r1
      have HR2 := Lib.hid r2
      clear hn hn2 hlen k1 k2 hz hz2 g2 r1 r2
      go_enter Try.func19, Try.ntmps19
      go_wp2_with fail
      go_loopw [13] (fun i wr => ∃ (k : Nat) (d : Ext), k ≤ n ∧ i = .int .i64 k ∧ wr = bw w d ∧ l1.take k = l2.take k) (fun i _ => n - (intOf i).toNat)
      case atStart => exact ⟨0, ⟨#[], w.drawn⟩, by omega, rfl, by simp [bw], by simp⟩
      case round =>
        obtain ⟨k, d, hk, rfl, rfl, ht⟩ := hrel
        have HT := Lib.hid ht
        clear ht
        by_cases hlt : k < n
        · have e1 := HR1.out k hlt
          have e2 := HR2.out k hlt
          simp only [List.getD] at e1 e2
          go_wp2_with fail
          refine region_bw (by kernel_rfl) (by kernel_rfl) ?_
          repeat (go_big_quiet_step (fail))
          refine wpQuiet_nil ?_
          rintro w' ⟨d', rfl⟩
          go_wp2
          · go_ret
            have hne : (l1[k]?.getD 0 != l2[k]?.getD 0) = true := by assumption
            exact ⟨ret_bool (take_ne (bne_iff_ne.1 hne)).symm, _, bw_bw w d d'⟩
          · go_roundw
            case rel =>
              have he : (l1[k]?.getD 0 != l2[k]?.getD 0) = false := by assumption
              exact ⟨k + 1, _, by omega, by go_num, rfl, take_succ_eq (by rw [← HN.out]; exact hlt) (by rw [← HN.out, ← HN2.out]) HT.out (by simpa using he)⟩
            case measure => simp [intOf]; omega
        · obtain rfl : k = n := by omega
          go_wp2
          go_ret
          refine ⟨ret_bool ?_, _, rfl⟩
          have := HT.out
          rw [List.take_of_length_le (by rw [← HN.out]; exact Nat.le_refl _), List.take_of_length_le (by rw [← HN2.out]; exact Nat.le_refl _)] at this
          simp [this]
  · have hx : ¬ (l1.length : Int) = (l2.length : Int) := by omega
    have hne : decide (l1 = l2) = false := by
      simp only [decide_eq_false_iff_not]
      rintro rfl
      exact hlen rfl
    have HN := Lib.hid hne
    obtain ⟨n1, hn1⟩ : ∃ n, n = l1.length := ⟨_, rfl⟩
    obtain ⟨n2, hn2⟩ : ∃ n, n = l2.length := ⟨_, rfl⟩
    rw [← hn1, ← hn2] at hx
    rw [← hn1, ← hn2]
    clear k1 k2 hlen hne hn1 hn2 g1 g2
    go_enter Try.func19, Try.ntmps19
    go_wp2
    all_goals go_ret
    all_goals exact ⟨ret_bool HN.out.symm, lay_ex _ []⟩
end Go.Proofs.Ytknammeehedbdaa
