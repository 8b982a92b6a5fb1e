/- Audit, the plain law: steps, differences, possible lists, repairs. No program in sight. -/
import Derived.Test.YtlkphcjlgbimkaaGreatInfra
namespace Go.Proofs.YtlkphcjlgbimkaaGreat
open Go.RowKit

def nth (g : List Int) (i : Nat) : Int := g.getD i 0
theorem nth_set (l : List Int) (at_ : Nat) (v : Int) (h : at_ < l.length) (i : Nat) : nth (l.set at_ v) i = if i = at_ then v else nth l i := by
  unfold nth
  by_cases e : i = at_
  · subst e; rw [if_pos rfl]; simp [List.getD, h]
  · rw [if_neg e]
    simp only [List.getD]
    rw [List.getElem?_set_ne (fun h => e h.symm)]
def frm (wr : Bool) (n : Int) : Int := if wr then n % 216000 else n
def stp (wr : Bool) (l : List Int) (i : Nat) : Int := frm wr (nth l (i + 1) - nth l i)
/-- The difference of the order 2 with a centre. -/
def sec (wr : Bool) (l : List Int) (i : Nat) : Int := stp wr l i - stp wr l (i - 1)
def badB (bend d : Int) : Bool := decide (bend + 2 < d ∨ d < -bend - 2)
theorem badB_f {bend d : Int} : badB bend d = false ↔ -(bend + 2) ≤ d ∧ d ≤ bend + 2 := by simp [badB]; omega
/-- The centres of bad differences from one up to before another one. -/
def badN (wr : Bool) (l : List Int) (bend : Int) (lo hi : Nat) : List Nat := (List.range' lo (hi - lo)).filter fun i => badB bend (sec wr l i)
def badL (wr : Bool) (l : List Int) (bend : Int) (lo hi : Nat) : List Int := (badN wr l bend lo hi).map Int.ofNat
theorem mem_badN {wr : Bool} {l : List Int} {bend : Int} {lo hi i : Nat} : i ∈ badN wr l bend lo hi ↔ lo ≤ i ∧ i < hi ∧ badB bend (sec wr l i) = true := by
  unfold badN
  rw [List.mem_filter, List.mem_range'_1]
  constructor
  · rintro ⟨⟨h1, h2⟩, h3⟩; exact ⟨h1, by omega, h3⟩
  · rintro ⟨h1, h2, h3⟩; exact ⟨⟨h1, by omega⟩, h3⟩
theorem badN_nil {wr : Bool} {l : List Int} {bend : Int} {lo hi : Nat} : badN wr l bend lo hi = [] ↔ ∀ i, lo ≤ i → i < hi → badB bend (sec wr l i) = false := by
  rw [List.eq_nil_iff_forall_not_mem]
  constructor
  · intro h i h1 h2
    cases e : badB bend (sec wr l i)
    · rfl
    · exact absurd (mem_badN.2 ⟨h1, h2, e⟩) (h i)
  · intro h i hi
    obtain ⟨h1, h2, h3⟩ := mem_badN.1 hi
    rw [h i h1 h2] at h3; cases h3
theorem badN_step (wr : Bool) (l : List Int) (bend : Int) (lo k : Nat) (h : lo ≤ k) : badN wr l bend lo (k + 1) = badN wr l bend lo k ++ if badB bend (sec wr l k) then [k] else [] := by
  unfold badN
  rw [show k + 1 - lo = (k - lo) + 1 by omega, List.range'_concat, List.filter_append]
  congr 1
  rw [show lo + 1 * (k - lo) = k by omega]
  simp only [List.filter_cons, List.filter_nil]
theorem badN_self (wr : Bool) (l : List Int) (bend : Int) (lo hi : Nat) (h : hi ≤ lo) : badN wr l bend lo hi = [] := by
  unfold badN; rw [show hi - lo = 0 by omega]; rfl
theorem badL_len {wr : Bool} {l : List Int} {bend : Int} {lo hi : Nat} : (badL wr l bend lo hi).length ≤ hi - lo := by
  unfold badL badN
  rw [List.length_map]
  exact Nat.le_trans (List.length_filter_le _ _) (by simp)
theorem mem_badL {wr : Bool} {l : List Int} {bend : Int} {lo hi : Nat} {x : Int} : x ∈ badL wr l bend lo hi ↔ ∃ i : Nat, x = i ∧ lo ≤ i ∧ i < hi ∧ badB bend (sec wr l i) = true := by
  unfold badL
  rw [List.mem_map]
  constructor
  · rintro ⟨i, h, rfl⟩; exact ⟨i, rfl, mem_badN.1 h⟩
  · rintro ⟨i, rfl, h⟩; exact ⟨i, mem_badN.2 h, rfl⟩

/-- Strictly ascending. -/
def Asc (l : List Int) : Prop := l.Pairwise (· < ·)
theorem asc_eq : ∀ {a b : List Int}, Asc a → Asc b → (∀ x, x ∈ a ↔ x ∈ b) → a = b
  | [], [], _, _, _ => rfl
  | [], y :: b, _, _, h => absurd ((h y).2 (List.mem_cons_self ..)) (List.not_mem_nil)
  | x :: a, [], _, _, h => absurd ((h x).1 (List.mem_cons_self ..)) (List.not_mem_nil)
  | x :: a, y :: b, ha, hb, h => by
    obtain ⟨hx, ha'⟩ := List.pairwise_cons.1 ha
    obtain ⟨hy, hb'⟩ := List.pairwise_cons.1 hb
    have e : x = y := by
      rcases List.mem_cons.1 ((h x).1 (List.mem_cons_self ..)) with e | e
      · exact e
      · rcases List.mem_cons.1 ((h y).2 (List.mem_cons_self ..)) with e2 | e2
        · exact e2.symm
        · have h1 : x < y := hx y e2
          have h2 : y < x := hy x e
          omega
    subst e
    congr 1
    refine asc_eq ha' hb' fun z => ?_
    constructor
    · intro hz
      rcases List.mem_cons.1 ((h z).1 (List.mem_cons_of_mem _ hz)) with e | e
      · subst e; exact absurd (hx z hz) (Int.lt_irrefl z)
      · exact e
    · intro hz
      rcases List.mem_cons.1 ((h z).2 (List.mem_cons_of_mem _ hz)) with e | e
      · subst e; exact absurd (hy z hz) (Int.lt_irrefl z)
      · exact e
theorem asc_filter {l : List Int} (h : Asc l) (p : Int → Bool) : Asc (l.filter p) := List.Pairwise.filter p h
/-- An ascending list with a further element, each once. -/
def putI (x : Int) : List Int → List Int
  | [] => [x]
  | y :: l => if y < x then y :: putI x l else if y = x then y :: l else x :: y :: l
theorem mem_putI {x : Int} : ∀ {l : List Int} {z : Int}, z ∈ putI x l ↔ z = x ∨ z ∈ l
  | [], z => by simp [putI]
  | y :: l, z => by
    unfold putI
    split
    · rw [List.mem_cons, mem_putI, List.mem_cons]
      constructor
      · rintro (h | h | h)
        · exact .inr (.inl h)
        · exact .inl h
        · exact .inr (.inr h)
      · rintro (h | h | h)
        · exact .inr (.inl h)
        · exact .inl h
        · exact .inr (.inr h)
    · split
      · rename_i h; subst h
        constructor
        · exact .inr
        · rintro (h | h)
          · subst h; exact List.mem_cons_self ..
          · exact h
      · rw [List.mem_cons]
theorem asc_putI {x : Int} : ∀ {l : List Int}, Asc l → Asc (putI x l)
  | [], _ => List.pairwise_singleton ..
  | y :: l, h => by
    obtain ⟨hy, hl⟩ := List.pairwise_cons.1 h
    unfold putI
    split
    · rename_i hlt
      refine List.pairwise_cons.2 ⟨fun z hz => ?_, asc_putI hl⟩
      rcases mem_putI.1 hz with e | e
      · subst e; exact hlt
      · exact hy z e
    · split
      · exact h
      · refine List.pairwise_cons.2 ⟨fun z hz => ?_, h⟩
        rcases List.mem_cons.1 hz with e | e
        · subst e; omega
        · have := hy z e; omega

/-- May a number be an entry? -/
def permB (wr : Bool) (n : Int) : Bool := if wr then decide (0 ≤ n ∧ n < 216000) else decide (-1048576 ≤ n ∧ n ≤ 1048576)
def givE (wr : Bool) (l : List Int) : Int := if l.length < 3 ∨ 1000 < l.length then 3 else if l.all (permB wr) then 0 else 1
structure Giv (wr : Bool) (l : List Int) : Prop where
  n3 : 3 ≤ l.length
  n1000 : l.length ≤ 1000
  perm : ∀ i, i < l.length → permB wr (nth l i) = true
theorem giv_iff {wr : Bool} {l : List Int} : givE wr l = 0 ↔ Giv wr l := by
  unfold givE
  constructor
  · intro h
    split at h
    · cases h
    · rename_i h1
      split at h
      · rename_i h2
        refine ⟨by omega, by omega, fun i hi => ?_⟩
        have := List.all_eq_true.1 h2 (nth l i) (by unfold nth; simp [List.getD, hi])
        exact this
      · cases h
  · rintro ⟨h1, h2, h3⟩
    rw [if_neg (by omega), if_pos]
    rw [List.all_eq_true]
    intro x hx
    obtain ⟨i, hi, rfl⟩ := List.getElem_of_mem hx
    have := h3 i hi
    unfold nth at this
    simpa [List.getD, hi] using this
theorem perm_bd {wr : Bool} {n : Int} (h : permB wr n = true) : -1048576 ≤ n ∧ n ≤ 1048576 := by
  unfold permB at h
  cases wr
  · simpa using h
  · simp at h; omega
theorem frm_bd {wr : Bool} {a b : Int} (ha : permB wr a = true) (hb : permB wr b = true) : -2097152 ≤ frm wr (a - b) ∧ frm wr (a - b) ≤ 2097152 := by
  unfold permB at ha hb; unfold frm
  cases wr
  · simp at ha hb ⊢; omega
  · simp at ha hb ⊢; omega
theorem stp_bd {wr : Bool} {l : List Int} (h : Giv wr l) {i : Nat} (hi : i + 1 < l.length) : -2097152 ≤ stp wr l i ∧ stp wr l i ≤ 2097152 := frm_bd (h.perm _ hi) (h.perm _ (by omega))
theorem sec_bd {wr : Bool} {l : List Int} (h : Giv wr l) {i : Nat} (h0 : 1 ≤ i) (hi : i + 1 < l.length) : -4194304 ≤ sec wr l i ∧ sec wr l i ≤ 4194304 := by
  have := stp_bd h hi
  have := stp_bd h (i := i - 1) (by omega)
  unfold sec; omega
theorem giv_set {wr : Bool} {l : List Int} (h : Giv wr l) (i : Nat) (v : Int) (hv : permB wr v = true) : Giv wr (l.set i v) := by
  refine ⟨by simpa using h.n3, by simpa using h.n1000, fun j hj => ?_⟩
  have hj' : j < l.length := by simpa using hj
  by_cases hi : i < l.length
  · rw [nth_set l i v hi]
    split
    · exact hv
    · exact h.perm j hj'
  · rw [List.set_eq_of_length_le (by omega)]; exact h.perm j hj'
end Go.Proofs.YtlkphcjlgbimkaaGreat
