/- Plain facts on integers: quotients rounded down and up, as Go reckons them. No program in sight. -/
namespace Go.Proofs.YtlkphcjlgbimkaaGreat
theorem floor_neg {a b : Int} (hb : 1 ≤ b) (h : a.tmod b < 0) : a.tdiv b - 1 = a / b := by
  have h1 := Int.tmod_add_mul_tdiv a b
  have h2 : -b < a.tmod b := by have := Int.lt_tmod_of_pos a (by omega : 0 < b); omega
  symm
  rw [Int.ediv_eq_iff_of_pos (by omega), Int.sub_mul, Int.mul_comm (a.tdiv b) b]
  omega
theorem floor_pos {a b : Int} (hb : 1 ≤ b) (h : 0 ≤ a.tmod b) : a.tdiv b = a / b := by
  have h1 := Int.tmod_add_mul_tdiv a b
  have h2 : a.tmod b < b := Int.tmod_lt_of_pos a (by omega)
  symm
  rw [Int.ediv_eq_iff_of_pos (by omega), Int.mul_comm (a.tdiv b) b]
  omega
theorem tdiv_bd {a b : Int} (hb : 1 ≤ b) (L : Int) (h0 : 0 ≤ L) (h1 : -L ≤ a) (h2 : a ≤ L) : -L ≤ a.tdiv b ∧ a.tdiv b ≤ L := by
  have h3 := Int.tmod_add_mul_tdiv a b
  rcases Int.lt_or_le a 0 with h | h
  · have e : a.tdiv b = -((-a) / b) := by rw [← Int.tdiv_eq_ediv_of_nonneg (by omega), Int.neg_tdiv, Int.neg_neg]
    have := Int.ediv_nonneg (show 0 ≤ -a by omega) (show 0 ≤ b by omega)
    have := Int.ediv_le_self b (show 0 ≤ -a by omega)
    omega
  · rw [Int.tdiv_eq_ediv_of_nonneg h]
    have := Int.ediv_nonneg h (show 0 ≤ b by omega)
    have := Int.ediv_le_self b h
    omega
/-- The quotient rounded up. -/
def cdiv (a b : Int) : Int := -((-a) / b)
theorem cdiv_pos {a b : Int} (hb : 1 ≤ b) (h : 0 < a.tmod b) : a.tdiv b + 1 = cdiv a b := by
  unfold cdiv
  have := floor_neg (a := -a) hb (by rw [Int.neg_tmod]; omega)
  rw [Int.neg_tdiv] at this; omega
theorem cdiv_neg {a b : Int} (hb : 1 ≤ b) (h : a.tmod b ≤ 0) : a.tdiv b = cdiv a b := by
  unfold cdiv
  have := floor_pos (a := -a) hb (by rw [Int.neg_tmod]; omega)
  rw [Int.neg_tdiv] at this; omega
theorem ediv_bd {a b : Int} (hb : 1 ≤ b) (L : Int) (h0 : 0 ≤ L) (h1 : -L ≤ a) (h2 : a ≤ L) : -L ≤ a / b ∧ a / b ≤ L := by
  constructor
  · rw [Int.le_ediv_iff_mul_le (by omega)]
    have : L * 1 ≤ L * b := Int.mul_le_mul_of_nonneg_left hb h0
    rw [Int.neg_mul]; omega
  · rcases Int.lt_or_le a 0 with h | h
    · have := Int.ediv_neg_of_neg_of_pos h (show 0 < b by omega); omega
    · have := Int.ediv_le_self b h; omega
theorem cdiv_bd {a b : Int} (hb : 1 ≤ b) (L : Int) (h0 : 0 ≤ L) (h1 : -L ≤ a) (h2 : a ≤ L) : -L ≤ cdiv a b ∧ cdiv a b ≤ L := by
  unfold cdiv
  have := ediv_bd (a := -a) hb L h0 (by omega) (by omega)
  omega
theorem tmod_wrap (n : Int) (c : Int) (hc : 1 ≤ c) : (n.tmod c < 0 → n.tmod c + c = n % c) ∧ (0 ≤ n.tmod c → n.tmod c = n % c) := by
  have h1 := Int.tmod_add_mul_tdiv n c
  have h2 := Int.emod_add_mul_ediv n c
  constructor
  · intro h
    have := floor_neg hc h
    rw [← this, Int.mul_sub] at h2; omega
  · intro h
    have := floor_pos hc h
    rw [← this] at h2; omega
theorem tmod_bd (n c : Int) (hc : 1 ≤ c) : -c < n.tmod c ∧ n.tmod c < c := by
  have := Int.lt_tmod_of_pos n (show 0 < c by omega)
  have := Int.tmod_lt_of_pos n (show 0 < c by omega)
  omega
end Go.Proofs.YtlkphcjlgbimkaaGreat
