/- The value over a part of a span lies within the value over the span. No program in sight. -/
import Derived.Test.YtknammeehedbdaaRf6
namespace Go.Proofs.Ytknammeehedbdaa
open Go.RowKit

theorem hullL_le {l : List (Int × Int)} : ∀ y ∈ l, (hullL l).1 ≤ y.1 ∧ y.2 ≤ (hullL l).2 := by
  cases l with
  | nil => intro y hy; cases hy
  | cons x l =>
    have key : ∀ (l : List (Int × Int)) x, ((l.foldl hull2 x).1 ≤ x.1 ∧ x.2 ≤ (l.foldl hull2 x).2) ∧ ∀ y ∈ l, (l.foldl hull2 x).1 ≤ y.1 ∧ y.2 ≤ (l.foldl hull2 x).2 := by
      intro l
      induction l with
      | nil => exact fun x => ⟨⟨Int.le_refl _, Int.le_refl _⟩, fun y hy => by cases hy⟩
      | cons z l ih =>
        intro x
        obtain ⟨h1, h2⟩ := ih (hull2 x z)
        have e1 : (hull2 x z).1 ≤ x.1 ∧ (hull2 x z).1 ≤ z.1 ∧ x.2 ≤ (hull2 x z).2 ∧ z.2 ≤ (hull2 x z).2 := by unfold hull2; dsimp only; omega
        refine ⟨⟨by show (l.foldl hull2 (hull2 x z)).1 ≤ _; omega, by show _ ≤ (l.foldl hull2 (hull2 x z)).2; omega⟩, fun y hy => ?_⟩
        rcases List.mem_cons.1 hy with rfl | hy
        · exact ⟨by show (l.foldl hull2 (hull2 x y)).1 ≤ _; omega, by show _ ≤ (l.foldl hull2 (hull2 x y)).2; omega⟩
        · exact h2 y hy
    intro y hy
    rcases List.mem_cons.1 hy with rfl | hy
    · exact (key l y).1
    · exact (key l x).2 y hy
theorem ins_lin (A : Int → Int × Int) (h n : Int) (n0 : 0 ≤ n) (n1 : n ≤ 3600000) :
    insL A (h * 3600000 + n) = ((A h).1 * (3600000 - n) + (A (h + 1)).1 * n) / 3600000 ∧ insH A (h * 3600000 + n) = cdiv ((A h).2 * (3600000 - n) + (A (h + 1)).2 * n) 3600000 := by
  unfold insL insH
  by_cases e0 : n = 0
  · subst e0
    rw [if_pos (by omega), if_pos (by omega), show (h * 3600000 + 0) / 3600000 = h by omega]
    unfold cdiv; omega
  · by_cases e1 : n = 3600000
    · subst e1
      rw [if_pos (by omega), if_pos (by omega), show (h * 3600000 + 3600000) / 3600000 = h + 1 by omega]
      unfold cdiv; omega
    · rw [if_neg (by omega), if_neg (by omega), show (h * 3600000 + n) / 3600000 = h by omega, show (h * 3600000 + n) % 3600000 = n by omega]
      exact ⟨rfl, rfl⟩
theorem aff_ge {x0 x1 n n1 n2 : Int} (h1 : n1 ≤ n) (h2 : n ≤ n2) : x0 * (3600000 - n1) + x1 * n1 ≤ x0 * (3600000 - n) + x1 * n ∨ x0 * (3600000 - n2) + x1 * n2 ≤ x0 * (3600000 - n) + x1 * n := by
  rcases Int.le_total x0 x1 with h | h
  · left
    have := Int.mul_le_mul_of_nonneg_left h1 (show 0 ≤ x1 - x0 by omega)
    simp only [Int.mul_sub, Int.sub_mul] at *; omega
  · right
    have := Int.mul_le_mul_of_nonneg_left h2 (show 0 ≤ x0 - x1 by omega)
    simp only [Int.mul_sub, Int.sub_mul] at *; omega
theorem aff_le {x0 x1 n n1 n2 : Int} (h1 : n1 ≤ n) (h2 : n ≤ n2) : x0 * (3600000 - n) + x1 * n ≤ x0 * (3600000 - n1) + x1 * n1 ∨ x0 * (3600000 - n) + x1 * n ≤ x0 * (3600000 - n2) + x1 * n2 := by
  rcases Int.le_total x0 x1 with h | h
  · right
    have := Int.mul_le_mul_of_nonneg_left h2 (show 0 ≤ x1 - x0 by omega)
    simp only [Int.mul_sub, Int.sub_mul] at *; omega
  · left
    have := Int.mul_le_mul_of_nonneg_left h1 (show 0 ≤ x0 - x1 by omega)
    simp only [Int.mul_sub, Int.sub_mul] at *; omega
theorem ins_hour (A : Int → Int × Int) (h : Int) : insL A (h * 3600000) = (A h).1 ∧ insH A (h * 3600000) = (A h).2 := by
  unfold insL insH
  rw [if_pos (by omega), if_pos (by omega), show h * 3600000 / 3600000 = h by omega]; exact ⟨rfl, rfl⟩
theorem pcs_at (A : Int → Int × Int) {lo hi e : Int} (h1 : lo ≤ e) (h2 : e ≤ hi) (he : e = lo ∨ e = hi ∨ e % 3600000 = 0) : (hullL (pcs A lo hi)).1 ≤ insL A e ∧ insH A e ≤ (hullL (pcs A lo hi)).2 := by
  by_cases e1 : e = lo
  · subst e1; exact hullL_le (insL A e, insH A e) (by simp [pcs])
  · by_cases e2 : e = hi
    · subst e2; exact hullL_le (insL A e, insH A e) (by simp [pcs])
    · have e3 : e % 3600000 = 0 := by omega
      have hk := ins_hour A (e / 3600000)
      rw [show e / 3600000 * 3600000 = e by omega] at hk
      rw [hk.1, hk.2]
      refine hullL_le (A (e / 3600000)) (List.mem_append.2 (.inr (List.mem_map.2 ⟨(e / 3600000 - (lo / 3600000 + 1)).toNat, List.mem_range.2 ?_, ?_⟩)))
      · unfold nhr cdiv; omega
      · show A _ = _
        rw [show lo / 3600000 + 1 + ((e / 3600000 - (lo / 3600000 + 1)).toNat : Int) = e / 3600000 by omega]
theorem ins_sub (A : Int → Int × Int) {lo hi ms : Int} (h1 : lo ≤ ms) (h2 : ms ≤ hi) : (hullL (pcs A lo hi)).1 ≤ insL A ms ∧ insH A ms ≤ (hullL (pcs A lo hi)).2 := by
  obtain ⟨h, hh⟩ : ∃ h, ms / 3600000 = h := ⟨_, rfl⟩
  have k1 := pcs_at A (lo := lo) (hi := hi) (e := max lo (h * 3600000)) (by omega) (by omega) (by omega)
  have k2 := pcs_at A (lo := lo) (hi := hi) (e := min hi ((h + 1) * 3600000)) (by omega) (by omega) (by omega)
  obtain ⟨n1, hn1⟩ : ∃ n1, max lo (h * 3600000) = h * 3600000 + n1 := ⟨max lo (h * 3600000) - h * 3600000, by omega⟩
  obtain ⟨n2, hn2⟩ : ∃ n2, min hi ((h + 1) * 3600000) = h * 3600000 + n2 := ⟨min hi ((h + 1) * 3600000) - h * 3600000, by omega⟩
  obtain ⟨n, hn⟩ : ∃ n, ms = h * 3600000 + n := ⟨ms - h * 3600000, by omega⟩
  have l1 := ins_lin A h n1 (by omega) (by omega)
  have l2 := ins_lin A h n2 (by omega) (by omega)
  have l := ins_lin A h n (by omega) (by omega)
  rw [hn1, l1.1, l1.2] at k1
  rw [hn2, l2.1, l2.2] at k2
  rw [hn, l.1, l.2]
  have g1 := aff_ge (x0 := (A h).1) (x1 := (A (h + 1)).1) (n := n) (n1 := n1) (n2 := n2) (by omega) (by omega)
  have g2 := aff_le (x0 := (A h).2) (x1 := (A (h + 1)).2) (n := n) (n1 := n1) (n2 := n2) (by omega) (by omega)
  generalize (A h).1 * (3600000 - n) + (A (h + 1)).1 * n = X at *
  generalize (A h).1 * (3600000 - n1) + (A (h + 1)).1 * n1 = X1 at *
  generalize (A h).1 * (3600000 - n2) + (A (h + 1)).1 * n2 = X2 at *
  generalize (A h).2 * (3600000 - n) + (A (h + 1)).2 * n = Y at *
  generalize (A h).2 * (3600000 - n1) + (A (h + 1)).2 * n1 = Y1 at *
  generalize (A h).2 * (3600000 - n2) + (A (h + 1)).2 * n2 = Y2 at *
  unfold cdiv at *
  omega
theorem pcs_sub (A : Int → Int × Int) {lo hi f t : Int} (h1 : lo ≤ f) (h2 : f ≤ t) (h3 : t ≤ hi) : (hullL (pcs A lo hi)).1 ≤ (hullL (pcs A f t)).1 ∧ (hullL (pcs A f t)).2 ≤ (hullL (pcs A lo hi)).2 := by
  refine hullL_ind (P := fun x => (hullL (pcs A lo hi)).1 ≤ x.1 ∧ x.2 ≤ (hullL (pcs A lo hi)).2) (fun x y hx hy => by unfold hull2; dsimp only at *; omega) (pcs_ne _ _ _) fun y hy => ?_
  rcases pcs_mem hy with rfl | rfl | ⟨i, hi', rfl⟩
  · exact ins_sub A h1 (by omega)
  · exact ins_sub A (by omega) h3
  · have hk := ins_hour A (f / 3600000 + 1 + i)
    rw [← hk.1, ← hk.2]
    have := nhr_lt hi'
    exact ins_sub A (by omega) (by omega)
theorem ovr_sub (A : Int → Int × Int) {lo hi f t r : Int} (r0 : 0 ≤ r) (h1 : lo ≤ f) (h2 : f ≤ t) (h3 : t ≤ hi) : (ovr A lo hi r).1 ≤ (ovr A f t r).1 ∧ (ovr A f t r).2 ≤ (ovr A lo hi r).2 := by
  have k := pcs_sub A h1 h2 h3
  have m0 : 0 ≤ cdiv (100 * r) 8 := by unfold cdiv; omega
  unfold ovr
  by_cases c1 : lo = hi ∧ lo % 3600000 = 0
  · have : f = t ∧ f % 3600000 = 0 := by omega
    rw [if_pos c1, if_pos this]; exact k
  · rw [if_neg c1]
    split
    · dsimp only; omega
    · dsimp only; omega
def nearC (x0 y0 x1 y1 : Int) : Prop := 21600000 ≤ y1 - x1 ∨ (y1 - x1 < 21600000 ∧ y0 - x0 < 21600000 ∧ (x0 - x1) % 21600000 + y0 - x0 ≤ y1 - x1)
theorem turn_sub {x0 y0 x1 y1 : Int} (h1 : x1 ≤ x0) (h2 : x0 ≤ y0) (h3 : y0 ≤ y1) : nearC (turnLo x0 y0) (turnHi x0 y0) (turnLo x1 y1) (turnHi x1 y1) := by
  unfold nearC turnLo turnHi
  by_cases c : 21600000 ≤ y1 - x1
  · rw [if_pos c, if_pos c]; left; omega
  · rw [if_neg c, if_neg c, if_neg (by omega), if_neg (by omega)]; right
    omega
theorem turn_rng {x y : Int} (h : x ≤ y) : 0 ≤ turnLo x y ∧ turnLo x y ≤ turnHi x y ∧ turnHi x y ≤ 43200000 := by
  unfold turnLo turnHi; split <;> omega
end Go.Proofs.Ytknammeehedbdaa
