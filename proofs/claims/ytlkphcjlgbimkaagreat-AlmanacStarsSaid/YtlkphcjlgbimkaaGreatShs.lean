/- The library's slice functions at strings. -/
import Derived.Test.YtlkphcjlgbimkaaGreatProg
import Derived.Test.YtlkphcjlgbimkaaGreatLay
import Derived.Test.YtlkphcjlgbimkaaGreatRegion
import Derived.Test.YtlkphcjlgbimkaaGreatMix
import Derived.WalkKit
import Derived.WalkSpells
import Derived.WalkLawsBesides
import Derived.Lib.Hide
import Derived.BigQuiet
import Derived.Test.YtlkphcjlgbimkaaGreatBod
import Derived.Test.YtlkphcjlgbimkaaGreatShelf
namespace Go.Proofs.YtlkphcjlgbimkaaGreat
open Go.RowKit Go.Sort

theorem bw_drewN' (w : World) (q : Nat) : ∃ d, w.drewN q = bw w d := ⟨⟨#[], w.drawn + q⟩, by
  show w.drewN q = { w with heap := w.heap ++ #[], drawn := w.drawn + q }
  rw [Array.append_empty]; rfl⟩
theorem str_cells {w : World} {b o n c : Nat} {l : List ByteArray} (h : SlG strR w (.slice (some ⟨b, o, none⟩) n c) l) : ∀ j, j < l.length → w.cell? ⟨b, o + j, none⟩ = some (.string (l.getD j ByteArray.empty)) := fun j hj => by
  have hx : l[j]? = some (l.getD j ByteArray.empty) := by simp [List.getD, hj]
  have := slG_get h hx (j := 0) (u := .string (l.getD j ByteArray.empty)) rfl
  simpa [strR] using this
theorem str_Equal (v1 v2 : Value) (l1 l2 : List ByteArray) (w : World) (h1 : SlG strR w v1 l1) (h2 : SlG strR w v2 l2) :
    Calls Tryz.prog 32 #[v1, v2] w fun e w' => e = .returned (.bool (decide (l1 = l2))) ∧ ∃ d, w' = bw w d := by
  have hn : ∃ d, w = bw w d := lay_ex w []
  by_cases hl : l1 = []
  · subst hl
    obtain ⟨a, cap, rfl, -⟩ := h1
    obtain ⟨a2, cap2, rfl, hc2, -⟩ := h2
    refine (Tryz.slices_Equal_string_empty a a2 cap l2.length cap2 w (by omega)).mono fun e w' ⟨h1, h2⟩ => ⟨?_, by rw [h2]; exact hn⟩
    rw [h1]
    refine ret_bool ?_
    rw [Bool.eq_iff_iff]; simp only [decide_eq_true_eq]
    constructor
    · intro h; exact (List.eq_nil_of_length_eq_zero h).symm
    · intro h; rw [← h]; rfl
  · by_cases hlen : l1.length = l2.length
    · have h0 : 0 < l1.length := List.length_pos_iff.2 hl
      obtain ⟨b, o, cap, rfl, hc, _, _⟩ := h1.open h0
      obtain ⟨b2, o2, cap2, rfl, hc2, _, _⟩ := h2.open (by omega)
      have := Tryz.slices_Equal_string b o l1.length cap b2 o2 l2.length cap2 l1 l2 w (Nat.le_refl _) (Nat.le_refl _) (by omega) (by omega) (str_cells h1) (str_cells h2)
      rw [List.take_length, List.take_length] at this
      exact this.mono fun e w' ⟨h1, q, h2⟩ => ⟨h1, by rw [h2]; exact bw_drewN' w q⟩
    · obtain ⟨a, cap, rfl, hc, -⟩ := h1
      obtain ⟨a2, cap2, rfl, hc2, -⟩ := h2
      refine (Tryz.slices_Equal_string_lens a a2 l1.length cap l2.length cap2 w hlen).mono fun e w' ⟨h1, h2⟩ => ⟨?_, by rw [h2]; exact hn⟩
      rw [h1]
      exact ret_bool (by rw [Bool.eq_iff_iff]; simp; intro h; exact absurd (by rw [h]) hlen)
theorem str_Contains (v : Value) (l : List ByteArray) (x : ByteArray) (w : World) (h : SlG strR w v l) :
    Calls Tryz.prog 63 #[v, .string x] w fun e w' => e = .returned (.bool (Lib.containsS l x)) ∧ w' = w := by
  by_cases hl : l = []
  · subst hl
    obtain ⟨a, cap, rfl, -⟩ := h
    exact (Tryz.slices_Contains_string_empty a cap x w).mono fun e w' ⟨h1, h2⟩ => ⟨h1, h2⟩
  · obtain ⟨b, o, cap, rfl, hc, _, _⟩ := h.open (List.length_pos_iff.2 hl)
    have := Tryz.slices_Contains_string b o l.length cap l x w (Nat.le_refl _) (by omega) (str_cells h)
    rw [List.take_length] at this
    exact this
end Go.Proofs.YtlkphcjlgbimkaaGreat
