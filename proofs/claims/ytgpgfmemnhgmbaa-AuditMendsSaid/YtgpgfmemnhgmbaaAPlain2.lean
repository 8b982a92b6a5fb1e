/- Audit, the plain law: a list that is sorted and compacted. No program in sight. -/
import Derived.Test.YtgpgfmemnhgmbaaAPlain
import Derived.Lib.SlicesCompact
namespace Go.Proofs.Ytgpgfmemnhgmbaa
open Go.RowKit

theorem keeps_iff {d : Array Int} {j : Nat} : Lib.keeps d j = true ↔ j = 0 ∨ d[j]! ≠ d[j - 1]! := by simp [Lib.keeps]
theorem mem_upTo {d : Array Int} {x : Int} : ∀ {m : Nat}, x ∈ Lib.compactUpTo d m → ∃ j, j < m ∧ x = d[j]!
  | 0, h => by simp [Lib.compactUpTo] at h
  | m + 1, h => by
    rw [Lib.compactUpTo_succ, List.mem_append] at h
    rcases h with h | h
    · obtain ⟨j, h1, h2⟩ := mem_upTo h
      exact ⟨j, by omega, h2⟩
    · split at h
      · exact ⟨m, by omega, by simpa using h⟩
      · exact absurd h (List.not_mem_nil)
theorem upTo_mem {d : Array Int} : ∀ {m j : Nat}, j < m → d[j]! ∈ Lib.compactUpTo d m
  | 0, j, h => absurd h (Nat.not_lt_zero j)
  | m + 1, j, h => by
    rw [Lib.compactUpTo_succ, List.mem_append]
    by_cases e : j < m
    · exact .inl (upTo_mem e)
    · obtain rfl : j = m := by omega
      by_cases hk : Lib.keeps d j = true
      · rw [if_pos hk]; exact .inr (List.mem_singleton.2 rfl)
      · have h0 : ¬ (j = 0 ∨ d[j]! ≠ d[j - 1]!) := fun h => hk (keeps_iff.2 h)
        have h1 : d[j]! = d[j - 1]! := Decidable.not_not.1 fun h => h0 (.inr h)
        rw [h1]
        exact .inl (upTo_mem (by omega))
theorem upTo_len (d : Array Int) : ∀ m, (Lib.compactUpTo d m).length ≤ m
  | 0 => by simp [Lib.compactUpTo]
  | m + 1 => by
    rw [Lib.compactUpTo_succ, List.length_append]
    have := upTo_len d m
    split <;> simp <;> omega
theorem upTo_asc {d : Array Int} (hs : ∀ j, j + 1 < d.size → d[j]! ≤ d[j + 1]!) : ∀ m, m ≤ d.size → Asc (Lib.compactUpTo d m) ∧ ∀ x, x ∈ Lib.compactUpTo d m → x ≤ d[m - 1]!
  | 0, _ => by constructor <;> simp [Lib.compactUpTo, Asc]
  | m + 1, hm => by
    obtain ⟨h1, h2⟩ := upTo_asc hs m (by omega)
    rw [Lib.compactUpTo_succ]
    have h3 : ∀ x, x ∈ Lib.compactUpTo d m → x ≤ d[m]! := fun x hx => by
      have hm0 : 0 < m := by
        obtain ⟨j, hj, _⟩ := mem_upTo hx
        omega
      have := h2 x hx
      have := hs (m - 1) (by omega)
      rw [show m - 1 + 1 = m by omega] at this
      omega
    split
    · rename_i hk
      refine ⟨List.pairwise_append.2 ⟨h1, List.pairwise_singleton .., fun x hx y hy => ?_⟩, fun x hx => ?_⟩
      · obtain rfl := List.mem_singleton.1 hy
        have hm0 : 0 < m := by
          obtain ⟨j, hj, _⟩ := mem_upTo hx
          omega
        have h5 := h2 x hx
        have h6 := hs (m - 1) (by omega)
        rw [show m - 1 + 1 = m by omega] at h6
        rcases keeps_iff.1 hk with h | h
        · omega
        · omega
      · rcases List.mem_append.1 hx with h | h
        · exact h3 x h
        · obtain rfl := List.mem_singleton.1 h
          exact Int.le_refl _
    · rw [List.append_nil]
      exact ⟨h1, h3⟩
theorem compact_len (l : List Int) : (Lib.compact l).length ≤ l.length := upTo_len _ _
theorem mem_compact {l : List Int} {x : Int} : x ∈ Lib.compact l ↔ x ∈ l := by
  unfold Lib.compact
  constructor
  · intro h
    obtain ⟨j, hj, rfl⟩ := mem_upTo h
    have : l.toArray[j]! = l[j] := by simp [hj]
    rw [this]; exact List.getElem_mem hj
  · intro h
    obtain ⟨j, hj, rfl⟩ := List.getElem_of_mem h
    have : l.toArray[j]! = l[j] := by simp [hj]
    rw [← this]; exact upTo_mem hj
theorem compact_asc {l : List Int} (hs : l.Pairwise (· ≤ ·)) : Asc (Lib.compact l) := by
  unfold Lib.compact
  refine (upTo_asc (fun j hj => ?_) l.length (by simp)).1
  have hj' : j + 1 < l.length := by simpa using hj
  have h1 : l.toArray[j]! = l[j] := by simp [show j < l.length by omega]
  have h2 : l.toArray[j + 1]! = l[j + 1] := by simp [hj']
  rw [h1, h2]
  exact List.pairwise_iff_getElem.1 hs j (j + 1) (by omega) hj' (by omega)
theorem sort_pair (l : List Int) : (l.mergeSort fun x y => decide (x ≤ y)).Pairwise (· ≤ ·) := by
  have := List.pairwise_mergeSort (le := fun x y : Int => decide (x ≤ y)) (fun a b c h1 h2 => by simp at *; omega) (fun a b => by simp; omega) l
  exact this.imp fun h => by simpa using h
/-- Sorted, each once. -/
def once (l : List Int) : List Int := Lib.compact (l.mergeSort fun x y => decide (x ≤ y))
theorem mem_once {l : List Int} {x : Int} : x ∈ once l ↔ x ∈ l := by unfold once; rw [mem_compact]; exact List.mem_mergeSort
theorem asc_once (l : List Int) : Asc (once l) := compact_asc (sort_pair l)
theorem once_len (l : List Int) : (once l).length ≤ l.length := by
  have := compact_len (l.mergeSort fun x y => decide (x ≤ y))
  rw [List.length_mergeSort] at this; exact this
end Go.Proofs.Ytgpgfmemnhgmbaa
