/- The swing in plain integers: entries sorted by heading. No program in sight. -/
import Derived.Test.YtlkphcjlgbimkaaCompPlain2
namespace Go.Proofs.Ytlkphcjlgbimkaa

/-- Strictly ascending headings. -/
def AscH (l : Tl) : Prop := l.Pairwise (fun a b => a.1 < b.1)
theorem ascH_eq : ∀ {a b : Tl}, AscH a → AscH b → (∀ x, x ∈ a ↔ x ∈ b) → a = b
  | [], [], _, _, _ => rfl
  | [], y :: b, _, _, h => absurd ((h y).2 (List.mem_cons_self ..)) (List.not_mem_nil)
  | x :: a, [], _, _, h => absurd ((h x).1 (List.mem_cons_self ..)) (List.not_mem_nil)
  | x :: a, y :: b, ha, hb, h => by
    obtain ⟨hx, ha'⟩ := List.pairwise_cons.1 ha
    obtain ⟨hy, hb'⟩ := List.pairwise_cons.1 hb
    have e : x = y := by
      rcases List.mem_cons.1 ((h x).1 (List.mem_cons_self ..)) with e | e
      · exact e
      · rcases List.mem_cons.1 ((h y).2 (List.mem_cons_self ..)) with e2 | e2
        · exact e2.symm
        · have h1 := hx y e2
          have h2 := hy x e
          omega
    subst e
    congr 1
    refine ascH_eq ha' hb' fun z => ?_
    constructor
    · intro hz
      rcases List.mem_cons.1 ((h z).1 (List.mem_cons_of_mem _ hz)) with e | e
      · subst e; exact absurd (hx z hz) (Int.lt_irrefl _)
      · exact e
    · intro hz
      rcases List.mem_cons.1 ((h z).2 (List.mem_cons_of_mem _ hz)) with e | e
      · subst e; exact absurd (hy z hz) (Int.lt_irrefl _)
      · exact e
/-- Each heading once. -/
def OneH (l : Tl) : Prop := (l.map (·.1)).Nodup
theorem OneH.of_asc {l : Tl} (h : AscH l) : OneH l := by
  unfold OneH AscH at *
  rw [List.Nodup, List.pairwise_map]
  exact h.imp fun h => Int.ne_of_lt h
theorem OneH.perm {a b : Tl} (h : OneH a) (hp : a.Perm b) : OneH b := (List.Perm.nodup_iff (hp.map _)).1 h
/-- An entry put at its place. -/
def insH (x : Int × Int) : Tl → Tl
  | [] => [x]
  | y :: l => if y.1 < x.1 then y :: insH x l else x :: y :: l
theorem perm_insH (x : Int × Int) : ∀ l : Tl, (insH x l).Perm (x :: l)
  | [] => List.Perm.refl _
  | y :: l => by
    unfold insH
    split
    · exact ((perm_insH x l).cons y).trans (List.Perm.swap x y l)
    · exact List.Perm.refl _
theorem mem_insH {x z : Int × Int} {l : Tl} : z ∈ insH x l ↔ z = x ∨ z ∈ l := by rw [(perm_insH x l).mem_iff, List.mem_cons]
theorem asc_insH {x : Int × Int} : ∀ {l : Tl}, AscH l → (∀ y ∈ l, y.1 ≠ x.1) → AscH (insH x l)
  | [], _, _ => List.pairwise_singleton _ _
  | y :: l, h, hn => by
    obtain ⟨hy, hl⟩ := List.pairwise_cons.1 h
    unfold insH
    split
    · rename_i hlt
      refine List.pairwise_cons.2 ⟨fun z hz => ?_, asc_insH hl fun z hz => hn z (List.mem_cons_of_mem _ hz)⟩
      rcases mem_insH.1 hz with rfl | hz
      · exact hlt
      · exact hy z hz
    · rename_i hge
      have h1 := hn y (List.mem_cons_self ..)
      refine List.pairwise_cons.2 ⟨fun z hz => ?_, h⟩
      rcases List.mem_cons.1 hz with rfl | hz
      · omega
      · have := hy z hz; omega
theorem insH_at {x : Int × Int} : ∀ {l : Tl} {k : Nat}, k ≤ l.length → (∀ i, i < k → hd l i < x.1) → (k < l.length → ¬ hd l k < x.1) → insH x l = l.take k ++ [x] ++ l.drop k
  | [], k, hk, _, _ => by
    obtain rfl : k = 0 := by simpa using hk
    rfl
  | y :: l, 0, _, _, h => by
    have h0 : hd (y :: l) 0 = y.1 := rfl
    have h1 := h (by simp)
    rw [h0] at h1
    unfold insH
    rw [if_neg h1]; rfl
  | y :: l, k + 1, hk, h1, h2 => by
    have h0 : y.1 < x.1 := h1 0 (by omega)
    have hs : ∀ i, hd (y :: l) (i + 1) = hd l i := fun i => rfl
    have ih := insH_at (x := x) (l := l) (k := k) (by simpa using hk) (fun i hi => by rw [← hs]; exact h1 (i + 1) (by omega)) (fun h => by rw [← hs]; exact h2 (by simp; omega))
    unfold insH
    rw [if_pos h0, ih]; rfl
/-- The first entries, put in one after the other. -/
def srtH : Tl → Nat → Tl
  | _, 0 => []
  | l, k + 1 => insH (hd l k, dv l k) (srtH l k)
theorem pair_eq {l : Tl} {k : Nat} (h : k < l.length) : l[k]? = some (hd l k, dv l k) := by simp [hd, dv, List.getD, h]
theorem perm_srtH {l : Tl} : ∀ k, k ≤ l.length → (srtH l k).Perm (l.take k)
  | 0, _ => by simp [srtH]
  | k + 1, h => by
    unfold srtH
    rw [List.take_add_one, pair_eq (by omega)]
    exact (perm_insH _ _).trans (((perm_srtH k (by omega)).cons _).trans (List.perm_append_singleton _ _).symm)
theorem srtH_len {l : Tl} {k : Nat} (h : k ≤ l.length) : (srtH l k).length = k := by
  rw [(perm_srtH k h).length_eq, List.length_take]; omega
theorem asc_srtH {l : Tl} (h : OneH l) : ∀ k, k ≤ l.length → AscH (srtH l k)
  | 0, _ => List.Pairwise.nil
  | k + 1, hk => by
    unfold srtH
    refine asc_insH (asc_srtH h k (by omega)) fun y hy => ?_
    have hy' := (perm_srtH k (by omega)).mem_iff.1 hy
    have h2 : OneH (l.take (k + 1)) := h.sublist ((List.take_sublist (k + 1) l).map _)
    rw [List.take_add_one, pair_eq (by omega)] at h2
    unfold OneH at h2
    rw [List.map_append, List.nodup_append] at h2
    exact h2.2.2 _ (List.mem_map_of_mem hy') _ (by simp)
/-- What the sorted list is, if each heading is there once. -/
theorem sorted_eq {l s : Tl} (h : OneH l) (hp : s.Perm l) (hs : s.Pairwise (fun a b => a.1 ≤ b.1)) : s = srtH l l.length := by
  have h1 : OneH s := h.perm hp.symm
  have h2 : AscH s := by
    unfold OneH at h1
    rw [List.Nodup, List.pairwise_map] at h1
    exact (hs.and h1).imp fun ⟨a, b⟩ => by omega
  refine ascH_eq h2 (asc_srtH h _ (Nat.le_refl _)) fun x => ?_
  rw [hp.mem_iff, (perm_srtH _ (Nat.le_refl _)).mem_iff, List.take_length]
theorem asc_of_adj : ∀ {s : Tl}, (∀ i, i + 1 < s.length → hd s i < hd s (i + 1)) → AscH s
  | [], _ => List.Pairwise.nil
  | [x], _ => List.pairwise_singleton _ _
  | x :: y :: s, h => by
    have ih : AscH (y :: s) := asc_of_adj fun i hi => h (i + 1) (by simpa using hi)
    refine List.pairwise_cons.2 ⟨fun z hz => ?_, ih⟩
    have h0 : x.1 < y.1 := h 0 (by simp)
    rcases List.mem_cons.1 hz with rfl | hz
    · exact h0
    · have := (List.pairwise_cons.1 ih).1 z hz; omega
/-- Two equal headings beside one another in a sorted list: not each once. -/
theorem two_adj {l s : Tl} (hp : s.Perm l) {i : Nat} (hi : i + 1 < s.length) (h : hd s (i + 1) = hd s i) : ¬ OneH l := fun h1 => by
  have h2 : OneH s := h1.perm hp.symm
  unfold OneH at h2
  rw [List.Nodup, List.pairwise_map, List.pairwise_iff_getElem] at h2
  refine h2 i (i + 1) (by omega) hi (by omega) ?_
  have e1 : s[i].1 = hd s i := by simp [hd, List.getD, show i < s.length by omega]
  have e2 : s[i + 1].1 = hd s (i + 1) := by simp [hd, List.getD, hi]
  rw [e1, e2, h]
/-- .. and one that comes a second time. -/
theorem two_ins {l : Tl} {k j : Nat} (hk : k < l.length) (hj : j < k) (h : hd (srtH l k) j = hd l k) : ¬ OneH l := fun h1 => by
  have hlen := srtH_len (l := l) (k := k) (by omega)
  have hm : ((srtH l k)[j]'(by omega)) ∈ srtH l k := List.getElem_mem _
  have hm' := (perm_srtH k (by omega)).mem_iff.1 hm
  have h2 : OneH (l.take (k + 1)) := h1.sublist ((List.take_sublist (k + 1) l).map _)
  rw [List.take_add_one, pair_eq hk] at h2
  unfold OneH at h2
  rw [List.map_append, List.nodup_append] at h2
  refine h2.2.2 _ (List.mem_map_of_mem hm') (hd l k) (by simp) ?_
  rw [← h]
  simp [hd, List.getD, show j < (srtH l k).length by omega]
/-- If none comes a second time, each is there once. -/
theorem one_of_ins {l : Tl} : ∀ k, k ≤ l.length → (∀ i, i < k → ∀ y ∈ srtH l i, y.1 ≠ hd l i) → OneH (l.take k)
  | 0, _, _ => by simp [OneH]
  | k + 1, hk, h => by
    have ih := one_of_ins k (by omega) fun i hi => h i (by omega)
    unfold OneH at *
    rw [List.take_add_one, pair_eq (by omega), List.map_append, List.nodup_append]
    refine ⟨ih, by simp, fun a ha b hb => ?_⟩
    obtain ⟨y, hy, rfl⟩ := List.mem_map.1 ha
    have hb' : b = hd l k := by simpa using hb
    rw [hb']
    exact h k (by omega) y ((perm_srtH k (by omega)).mem_iff.2 hy)

theorem asc_of_ins {l : Tl} : ∀ i, (∀ j, j < i → ∀ y ∈ srtH l j, y.1 ≠ hd l j) → AscH (srtH l i)
  | 0, _ => List.Pairwise.nil
  | i + 1, h => asc_insH (asc_of_ins i fun j hj => h j (by omega)) (h i (by omega))
theorem hd_mem {S : Tl} {y : Int × Int} (h : y ∈ S) : ∃ j, j < S.length ∧ hd S j = y.1 := by
  obtain ⟨j, hj, rfl⟩ := List.getElem_of_mem h
  exact ⟨j, hj, by simp [hd, List.getD, hj]⟩
theorem asc_hd {S : Tl} (h : AscH S) {i j : Nat} (hij : i < j) (hj : j < S.length) : hd S i < hd S j := by
  have h1 := List.pairwise_iff_getElem.1 h i j (by omega) hj hij
  simpa [hd, List.getD, hj, show i < S.length by omega] using h1
theorem ne_all {S : Tl} {x : Int} {q : Nat} (h : AscH S) (h1 : ∀ j, j < q → hd S j < x) (h2 : q < S.length → x < hd S q) : ∀ y ∈ S, y.1 ≠ x := fun y hy e => by
  obtain ⟨j, hj, hh⟩ := hd_mem hy
  rcases Nat.lt_trichotomy j q with hlt | rfl | hgt
  · have := h1 j hlt; omega
  · have := h2 hj; omega
  · have := h2 (by omega)
    have := asc_hd h hgt hj; omega

/-- The integer from -HalfTurn on with the same direction. -/
def sgnH (n : Int) : Int := if 10800000 ≤ n % 21600000 then n % 21600000 - 21600000 else n % 21600000
theorem sgnH_bd (n : Int) : -10800000 ≤ sgnH n ∧ sgnH n < 10800000 := by unfold sgnH; split <;> omega
/-- The entries of a swing. -/
def entH (h b : List Int) (B V : Int) (k : Nat) : Tl := (List.range k).map fun i => (h.getD i 0, sgnH (B - V - b.getD i 0))
theorem entH_len (h b : List Int) (B V : Int) (k : Nat) : (entH h b B V k).length = k := by simp [entH]
theorem entH_step (h b : List Int) (B V : Int) (k : Nat) : entH h b B V (k + 1) = entH h b B V k ++ [(h.getD k 0, sgnH (B - V - b.getD k 0))] := by simp [entH, List.range_succ]
theorem entH_at {h b : List Int} {B V : Int} {k i : Nat} (hi : i < k) : hd (entH h b B V k) i = h.getD i 0 ∧ dv (entH h b B V k) i = sgnH (B - V - b.getD i 0) := by
  unfold entH hd dv; simp [List.getD, hi]
end Go.Proofs.Ytlkphcjlgbimkaa
