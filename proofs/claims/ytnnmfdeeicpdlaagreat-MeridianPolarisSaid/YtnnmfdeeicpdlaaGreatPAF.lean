/- Contracts and plain laws, several texts in one: Mer1; ExP; InP; AlP; BkP; NeP; NeQ; SaP; SaQ -/
import Derived.Test.YtnnmfdeeicpdlaaGreatProg
import Derived.WalkKit
import Derived.WalkSpells
import Derived.WalkLawsBesides
import Derived.Lib.Hide
import Derived.BigQuiet
import Derived.Test.YtnnmfdeeicpdlaaGreatPAA
import Derived.Test.YtnnmfdeeicpdlaaGreatPAD
import Derived.Test.YtnnmfdeeicpdlaaGreatPAE
/- Contracts of package meridian and its reference: latitudes at the meridian. -/
namespace Go.Proofs.YtnnmfdeeicpdlaaGreat
set_option maxHeartbeats 400000
open Go.RowKit

def latB (x0 y0 : Int) : Bool := decide (x0 ≤ y0 ∧ -5400000 ≤ x0 ∧ y0 ≤ 5400000)
theorem latB_iff {x0 y0 : Int} : latB x0 y0 = true ↔ x0 ≤ y0 ∧ -5400000 ≤ x0 ∧ y0 ≤ 5400000 := by simp [latB]
theorem lat_valid {x0 y0 : Int} (h : latB x0 y0 = true) : validB x0 y0 = true := by
  have := latB_iff.1 h; rw [validB_iff]; omega
theorem ref25_Latitude (x0 y0 : Int) (w : World) :
    Calls Tryz.prog 49 #[(.agg #[.int .i64 (x0), .int .i64 (y0)])] w fun e w' => e = .returned (.bool (latB x0 y0)) ∧ ∃ d, w' = bw w d := by
  refine lay_start ?_
  go_enter Tryz.func49, Tryz.ntmps49
  go_wp2
  all_goals go_ret
  all_goals exact ⟨ret_bool (by rw [Bool.eq_iff_iff]; simp [latB]; omega), lay_ex _ _⟩
theorem lat_w1 {x0 y0 : Int} (h1 : validB x0 y0 = true) (h2 : -5400000 ≤ x0) : decide (y0 ≤ 5400000) = latB x0 y0 := by
  have := validB_iff.1 h1; rw [Bool.eq_iff_iff]; simp [latB]; omega
theorem lat_w2 {x0 y0 : Int} (h2 : x0 < -5400000) : false = latB x0 y0 := by rw [Bool.eq_iff_iff]; simp [latB]; omega
theorem lat_w3 {x0 y0 : Int} (h1 : ¬ validB x0 y0 = true) : false = latB x0 y0 := by
  rw [validB_iff] at h1; rw [Bool.eq_iff_iff]; simp [latB]; omega
theorem mer_latitude (x0 y0 : Int) (w : World) :
    Calls Tryz.prog 38 #[(.agg #[.int .i64 (x0), .int .i64 (y0)])] w fun e w' => e = .returned (.bool (latB x0 y0)) ∧ ∃ d, w' = bw w d := by
  refine lay_start ?_
  go_enter Tryz.func38, Tryz.ntmps38
  go_wp2_with (go_at_call 39; refine (angle_Valid _ _ _).mono ?_; rintro e w' ⟨rfl, d, rfl⟩)
  all_goals go_ret
  all_goals exact ⟨ret_bool (by first | exact lat_w1 ‹_› ‹_› | exact lat_w2 ‹_› | exact lat_w3 ‹_›), lay_ex _ _⟩
def lsLo (x0 y0 : Int) : Int := if max x0 (-5400000) ≤ min y0 5400000 then max x0 (-5400000) else 0
def lsHi (x0 y0 : Int) : Int := if max x0 (-5400000) ≤ min y0 5400000 then min y0 5400000 else 0
def lsE (x0 y0 : Int) : Int := if max x0 (-5400000) ≤ min y0 5400000 then 0 else 2
theorem ls_good {x0 y0 : Int} (h : mx x0 (-5400000) ≤ mn y0 5400000) : mx x0 (-5400000) = lsLo x0 y0 ∧ mn y0 5400000 = lsHi x0 y0 ∧ 0 = lsE x0 y0 := by
  rw [mx_eq, mn_eq] at *; unfold lsLo lsHi lsE; omega
theorem ls_bad {x0 y0 : Int} (h : mn y0 5400000 < mx x0 (-5400000)) : 0 = lsLo x0 y0 ∧ 0 = lsHi x0 y0 ∧ 2 = lsE x0 y0 := by
  rw [mx_eq, mn_eq] at *; unfold lsLo lsHi lsE; omega
theorem mer_latitudes (x0 y0 : Int) (w : World) :
    Calls Tryz.prog 47 #[(.agg #[.int .i64 (x0), .int .i64 (y0)])] w fun e w' => e = .returned (.tuple #[(.agg #[.int .i64 (lsLo x0 y0), .int .i64 (lsHi x0 y0)]), .int .i64 (lsE x0 y0)]) ∧ ∃ d, w' = bw w d := by
  refine lay_start ?_
  go_enter Tryz.func47, Tryz.ntmps47
  go_wp2
  · obtain ⟨g1, g2, g3⟩ := ls_bad (x0 := x0) (y0 := y0) ‹_›
    exact bodyPost_ret (v := .tuple #[(.agg #[.int .i64 (lsLo x0 y0), .int .i64 (lsHi x0 y0)]), .int .i64 (lsE x0 y0)]) (by simp [results, Tryz.results47, go_sem, ← g1, ← g2, ← g3]) rfl ⟨rfl, lay_ex _ _⟩
  · obtain ⟨g1, g2, g3⟩ := ls_good (x0 := x0) (y0 := y0) ‹_›
    exact bodyPost_ret (v := .tuple #[(.agg #[.int .i64 (lsLo x0 y0), .int .i64 (lsHi x0 y0)]), .int .i64 (lsE x0 y0)]) (by simp [results, Tryz.results47, go_sem, ← g1, ← g2, ← g3]) rfl ⟨rfl, lay_ex _ _⟩
theorem ls_meets {x0 y0 : Int} (h : meetsB x0 y0 (-5400000) 5400000 = true) (hxy : x0 ≤ y0) : mx x0 (-5400000) = lsLo x0 y0 ∧ mn y0 5400000 = lsHi x0 y0 ∧ 0 = lsE x0 y0 := by
  simp [meetsB] at h
  rw [mx_eq, mn_eq] at *; unfold lsLo lsHi lsE; omega
theorem ls_misses {x0 y0 : Int} (h : meetsB x0 y0 (-5400000) 5400000 = false) (_hxy : x0 ≤ y0) : 0 = lsLo x0 y0 ∧ 0 = lsHi x0 y0 ∧ 2 = lsE x0 y0 := by
  simp [meetsB] at h
  unfold lsLo lsHi lsE; omega
theorem ref33_latitudes (x0 y0 : Int) (w : World) (hxy : x0 ≤ y0) :
    Calls Tryz.prog 57 #[(.agg #[.int .i64 (x0), .int .i64 (y0)])] w fun e w' => e = .returned (.tuple #[(.agg #[.int .i64 (lsLo x0 y0), .int .i64 (lsHi x0 y0)]), .int .i64 (lsE x0 y0)]) ∧ ∃ d, w' = bw w d := by
  cases h : meetsB x0 y0 (-5400000) 5400000
  · have HG := Lib.hid (ls_misses h hxy)
    refine lay_start ?_
    go_enter Tryz.func57, Tryz.ntmps57
    go_wp2_with (go_at_call 137; refine (ref05_Meets _ _ _ _ _).mono ?_; rintro e w' ⟨rfl, d, rfl⟩)
    obtain ⟨g1, g2, g3⟩ := HG.out
    exact bodyPost_ret (v := .tuple #[(.agg #[.int .i64 (lsLo x0 y0), .int .i64 (lsHi x0 y0)]), .int .i64 (lsE x0 y0)]) (by simp [results, Tryz.results57, go_sem, ← g1, ← g2, ← g3]) rfl ⟨rfl, lay_ex _ _⟩
  · have HG := Lib.hid (ls_meets h hxy)
    refine lay_start ?_
    go_enter Tryz.func57, Tryz.ntmps57
    go_wp2_with (first | (go_at_call 137; refine (ref05_Meets _ _ _ _ _).mono ?_; rintro e w' ⟨rfl, d, rfl⟩) | (go_at_call 138; refine (ref05_Meet _ _ _ _ _).mono ?_; rintro e w' ⟨rfl, d, rfl⟩))
    obtain ⟨g1, g2, g3⟩ := HG.out
    exact bodyPost_ret (v := .tuple #[(.agg #[.int .i64 (lsLo x0 y0), .int .i64 (lsHi x0 y0)]), .int .i64 (lsE x0 y0)]) (by simp [results, Tryz.results57, go_sem, g1, g2, g3]) rfl ⟨rfl, lay_ex _ _⟩
theorem mer_plus (x0 y0 x1 y1 : Int) (w : World) (h1 : -9223372036854775807 ≤ x0 + x1) (h2 : x0 + x1 ≤ 9223372036854775807) (h3 : -9223372036854775807 ≤ y0 + y1) (h4 : y0 + y1 ≤ 9223372036854775807) :
    Calls Tryz.prog 113 #[(.agg #[.int .i64 (x0), .int .i64 (y0)]), (.agg #[.int .i64 (x1), .int .i64 (y1)])] w fun e w' => e = .returned (.agg #[.int .i64 (x0 + x1), .int .i64 (y0 + y1)]) ∧ ∃ d, w' = bw w d := by
  refine lay_start ?_
  go_enter Tryz.func113, Tryz.ntmps113
  go_wp2
  exact bodyPost_ret (v := (.agg #[.int .i64 (x0 + x1), .int .i64 (y0 + y1)])) (by simp [results, Tryz.results113, go_sem]) rfl ⟨rfl, lay_ex _ _⟩
theorem mer_minus (x0 y0 x1 y1 : Int) (w : World) (h1 : -9223372036854775807 ≤ x0 - y1) (h2 : x0 - y1 ≤ 9223372036854775807) (h3 : -9223372036854775807 ≤ y0 - x1) (h4 : y0 - x1 ≤ 9223372036854775807) :
    Calls Tryz.prog 48 #[(.agg #[.int .i64 (x0), .int .i64 (y0)]), (.agg #[.int .i64 (x1), .int .i64 (y1)])] w fun e w' => e = .returned (.agg #[.int .i64 (x0 - y1), .int .i64 (y0 - x1)]) ∧ ∃ d, w' = bw w d := by
  refine lay_start ?_
  go_enter Tryz.func48, Tryz.ntmps48
  go_wp2
  exact bodyPost_ret (v := (.agg #[.int .i64 (x0 - y1), .int .i64 (y0 - x1)])) (by simp [results, Tryz.results48, go_sem]) rfl ⟨rfl, lay_ex _ _⟩
theorem mer_rest (x0 y0 : Int) (w : World) (h1 : -9223372036849375807 ≤ x0) (h2 : x0 ≤ 9223372036849375807) (h3 : -9223372036849375807 ≤ y0) (h4 : y0 ≤ 9223372036849375807) :
    Calls Tryz.prog 114 #[(.agg #[.int .i64 (x0), .int .i64 (y0)])] w fun e w' => e = .returned (.agg #[.int .i64 (5400000 - y0), .int .i64 (5400000 - x0)]) ∧ ∃ d, w' = bw w d := by
  refine lay_start ?_
  go_enter Tryz.func114, Tryz.ntmps114
  go_wp2
  exact bodyPost_ret (v := (.agg #[.int .i64 (5400000 - y0), .int .i64 (5400000 - x0)])) (by simp [results, Tryz.results114, go_sem]) rfl ⟨rfl, lay_ex _ _⟩
theorem law33_one (n : Int) (w : World) :
    Calls Tryz.prog 36 #[.int .i64 n] w fun e w' => e = .returned (.agg #[.int .i64 (n), .int .i64 (n)]) ∧ ∃ d, w' = bw w d := by
  refine lay_start ?_
  go_enter Tryz.func36, Tryz.ntmps36
  go_wp2
  exact bodyPost_ret (v := (.agg #[.int .i64 (n), .int .i64 (n)])) (by simp [results, Tryz.results36, go_sem]) rfl ⟨rfl, lay_ex _ _⟩
end Go.Proofs.YtnnmfdeeicpdlaaGreat
/- The latitude by an ex-meridian altitude: what is reckoned. No program in sight. -/
namespace Go.Proofs.YtnnmfdeeicpdlaaGreat
open Go.RowKit

theorem unit_fx {a b : Int} (h : -1073741824 ≤ a ∧ a ≤ b ∧ b ≤ 1073741824) : fxB a b = true := fxB_iff.2 (by omega)
end Go.Proofs.YtnnmfdeeicpdlaaGreat
/- Values of the exact rotation within intervals of whole numbers, but for small errors. No program in sight. -/
namespace Go.Proofs.YtnnmfdeeicpdlaaGreat
open Go.RowKit

structure InR (l h : Int) (v e : Rat) : Prop where
  lo : (l : Rat) ≤ 1073741824 * v + e
  hi : 1073741824 * v ≤ (h : Rat) + e
theorem InR.mono {l h l' h' : Int} {v e e' : Rat} (x : InR l h v e) (h1 : l' ≤ l) (h2 : h ≤ h') (h3 : e ≤ e') : InR l' h' v e' := by
  obtain ⟨a, b⟩ := x
  have g1 : (l' : Rat) ≤ (l : Rat) := by exact_mod_cast h1
  have g2 : (h : Rat) ≤ (h' : Rat) := by exact_mod_cast h2
  constructor <;> grind
theorem InR.add {a0 a1 b0 b1 : Int} {x y e f : Rat} (hx : InR a0 a1 x e) (hy : InR b0 b1 y f) : InR (a0 + b0) (a1 + b1) (x + y) (e + f) := by
  obtain ⟨a, b⟩ := hx
  obtain ⟨c, d⟩ := hy
  constructor <;> push_cast <;> grind
theorem InR.sub {a0 a1 b0 b1 : Int} {x y e f : Rat} (hx : InR a0 a1 x e) (hy : InR b0 b1 y f) : InR (a0 - b1) (a1 - b0) (x - y) (e + f) := by
  obtain ⟨a, b⟩ := hx
  obtain ⟨c, d⟩ := hy
  constructor <;> push_cast <;> grind
theorem InR.neg {a0 a1 : Int} {x e : Rat} (hx : InR a0 a1 x e) : InR (-a1) (-a0) (-x) e := by
  obtain ⟨a, b⟩ := hx
  constructor <;> push_cast <;> grind
theorem InR.near {l h : Int} {v u e d e' : Rat} (x : InR l h v e) (hn : Nr u v d) (he : e + 1073741824 * d ≤ e') : InR l h u e' := by
  obtain ⟨a, b⟩ := x
  obtain ⟨c, d⟩ := hn
  constructor <;> grind
theorem clampR {a0 a1 X e : Rat} (h : a0 ≤ a1) (h1 : a0 ≤ X + e) (h2 : X ≤ a1 + e) (h0 : 0 ≤ e) : ∃ x, a0 ≤ x ∧ x ≤ a1 ∧ -e ≤ X - x ∧ X - x ≤ e := by
  by_cases c1 : X ≤ a0
  · exact ⟨a0, by grind, h, by grind, by grind⟩
  · by_cases c2 : X ≤ a1
    · exact ⟨X, by grind, c2, by grind, by grind⟩
    · exact ⟨a1, h, by grind, by grind, by grind⟩
theorem linR {a0 a1 x k : Rat} (h0 : a0 ≤ x) (h1 : x ≤ a1) : (a0 * k ≤ x * k ∨ a1 * k ≤ x * k) ∧ (x * k ≤ a0 * k ∨ x * k ≤ a1 * k) := by
  rcases (Rat.le_total : (0 : Rat) ≤ k ∨ k ≤ 0) with g | g
  · exact ⟨.inl (Rat.mul_le_mul_of_nonneg_right h0 g), .inr (Rat.mul_le_mul_of_nonneg_right h1 g)⟩
  · have a := Rat.mul_le_mul_of_nonneg_right h0 (show 0 ≤ -k by grind)
    have b := Rat.mul_le_mul_of_nonneg_right h1 (show 0 ≤ -k by grind)
    exact ⟨.inr (by grind), .inl (by grind)⟩
theorem boxR {a0 a1 b0 b1 x y : Rat} (h0 : a0 ≤ x) (h1 : x ≤ a1) (g0 : b0 ≤ y) (g1 : y ≤ b1) : (a0 * b0 ≤ x * y ∨ a0 * b1 ≤ x * y ∨ a1 * b0 ≤ x * y ∨ a1 * b1 ≤ x * y) ∧ (x * y ≤ a0 * b0 ∨ x * y ≤ a0 * b1 ∨ x * y ≤ a1 * b0 ∨ x * y ≤ a1 * b1) := by
  obtain ⟨p, q⟩ := linR (k := y) h0 h1
  obtain ⟨p0, q0⟩ := linR (k := a0) g0 g1
  obtain ⟨p1, q1⟩ := linR (k := a1) g0 g1
  constructor
  · rcases p with p | p
    · rcases p0 with p0 | p0
      · left; grind
      · right; left; grind
    · rcases p1 with p1 | p1
      · right; right; left; grind
      · right; right; right; grind
  · rcases q with q | q
    · rcases q0 with q0 | q0
      · left; grind
      · right; left; grind
    · rcases q1 with q1 | q1
      · right; right; left; grind
      · right; right; right; grind
theorem castle {a b : Int} (h : a ≤ b) : (a : Rat) ≤ (b : Rat) := by exact_mod_cast h
theorem InR.mul {a0 a1 b0 b1 : Int} {x y e f g : Rat} (hx : InR a0 a1 x e) (hy : InR b0 b1 y f) (ha : -1073741824 ≤ a0 ∧ a0 ≤ a1 ∧ a1 ≤ 1073741824) (hb : -1073741824 ≤ b0 ∧ b0 ≤ b1 ∧ b1 ≤ 1073741824)
    (he : 0 ≤ e) (hf : 0 ≤ f) (hf1 : f ≤ 1073741824) (hg : 2 * e + f ≤ g) : InR (mulL a0 a1 b0 b1) (mulH a0 a1 b0 b1) (x * y) g := by
  obtain ⟨x1, x2⟩ := hx
  obtain ⟨y1, y2⟩ := hy
  obtain ⟨X, hX⟩ : ∃ X, 1073741824 * x = X := ⟨_, rfl⟩
  obtain ⟨Y, hY⟩ : ∃ Y, 1073741824 * y = Y := ⟨_, rfl⟩
  rw [hX] at x1 x2
  rw [hY] at y1 y2
  have ca0 : (-1073741824 : Rat) ≤ (a0 : Rat) := castle ha.1
  have ca : (a0 : Rat) ≤ (a1 : Rat) := castle ha.2.1
  have ca1 : (a1 : Rat) ≤ 1073741824 := castle ha.2.2
  have cb0 : (-1073741824 : Rat) ≤ (b0 : Rat) := castle hb.1
  have cb : (b0 : Rat) ≤ (b1 : Rat) := castle hb.2.1
  have cb1 : (b1 : Rat) ≤ 1073741824 := castle hb.2.2
  obtain ⟨u, u1, u2, u3, u4⟩ := clampR ca x1 x2 he
  obtain ⟨v, v1, v2, v3, v4⟩ := clampR cb y1 y2 hf
  obtain ⟨p1, p2⟩ := boxR u1 u2 v1 v2
  obtain ⟨r1, r2⟩ := rabs (x := Y) (y := X - u) (m := 2147483648) (f := e) (by grind) (by grind) u3 u4
  obtain ⟨s1, s2⟩ := rabs (x := u) (y := Y - v) (m := 1073741824) (f := f) (by grind) (by grind) v3 v4
  have hm := mn4_is (a0 * b0) (a0 * b1) (a1 * b0) (a1 * b1)
  have hx4 := mx4_is (a0 * b0) (a0 * b1) (a1 * b0) (a1 * b1)
  have e1 : m4 a0 a1 b0 b1 = mn (mn (mn (a0 * b0) (a0 * b1)) (a1 * b0)) (a1 * b1) := rfl
  have e2 : x4 a0 a1 b0 b1 = mx (mx (mx (a0 * b0) (a0 * b1)) (a1 * b0)) (a1 * b1) := rfl
  have hlo : mulL a0 a1 b0 b1 * 1073741824 ≤ m4 a0 a1 b0 b1 := by unfold mulL; omega
  have hhi : x4 a0 a1 b0 b1 ≤ mulH a0 a1 b0 b1 * 1073741824 := by unfold mulH; omega
  rw [← e1] at hm
  rw [← e2] at hx4
  obtain ⟨⟨m1, m2, m3, m4'⟩, -⟩ := hm
  obtain ⟨⟨n1, n2, n3, n4⟩, -⟩ := hx4
  generalize m4 a0 a1 b0 b1 = M at *
  generalize x4 a0 a1 b0 b1 = N at *
  generalize mulL a0 a1 b0 b1 = L at *
  generalize mulH a0 a1 b0 b1 = H at *
  have c1 := castle m1
  have c2 := castle m2
  have c3 := castle m3
  have c4 := castle m4'
  have d1 := castle n1
  have d2 := castle n2
  have d3 := castle n3
  have d4 := castle n4
  have cl := castle hlo
  have ch := castle hhi
  push_cast at c1 c2 c3 c4 d1 d2 d3 d4 cl ch
  have hM : (M : Rat) ≤ u * v := by rcases p1 with p | p | p | p <;> grind
  have hN : u * v ≤ (N : Rat) := by rcases p2 with p | p | p | p <;> grind
  have hXY : 1073741824 * (1073741824 * (x * y)) = X * Y := by rw [← hX, ← hY]; grind
  have k1 : u * v ≤ X * Y + 2147483648 * e + 1073741824 * f := by grind
  have k2 : X * Y ≤ u * v + 2147483648 * e + 1073741824 * f := by grind
  obtain ⟨Z, hZ⟩ : ∃ Z, 1073741824 * (x * y) = Z := ⟨_, rfl⟩
  rw [hZ] at hXY
  constructor
  · rw [hZ]; grind
  · rw [hZ]; grind
end Go.Proofs.YtnnmfdeeicpdlaaGreat
/- The sine of an altitude: what is reckoned. No program in sight. -/
namespace Go.Proofs.YtnnmfdeeicpdlaaGreat
open Go.RowKit

end Go.Proofs.YtnnmfdeeicpdlaaGreat
/- The altitude on the meridian contains the true one; arcsines of intervals. No program in sight. -/
namespace Go.Proofs.YtnnmfdeeicpdlaaGreat
open Go.RowKit

end Go.Proofs.YtnnmfdeeicpdlaaGreat
/- An ex-meridian altitude has the latitude: the plain law. No program in sight. -/
namespace Go.Proofs.YtnnmfdeeicpdlaaGreat
open Go.RowKit

end Go.Proofs.YtnnmfdeeicpdlaaGreat
/- An ex-meridian altitude has the latitude: the plain law, second part. No program in sight. -/
namespace Go.Proofs.YtnnmfdeeicpdlaaGreat
open Go.RowKit

end Go.Proofs.YtnnmfdeeicpdlaaGreat
/- Directions of points: what the program's decisions mean for the exact rotation. No program in sight. -/
namespace Go.Proofs.YtnnmfdeeicpdlaaGreat
open Go.RowKit

def eA : Rat := 1 / 25000000000000000000
theorem siA_near {k : Nat} (hk : k ≤ 5400000) : Nr ((siA k : Rat) / (m192 : Rat)) (zs k) eA ∧ Nr ((coA k : Rat) / (m192 : Rat)) (zc k) eA := by
  unfold siA coA
  by_cases h : 2700000 < k
  · rw [if_pos h, if_pos h]
    obtain ⟨j, hj⟩ : ∃ j, 5400000 - k = j := ⟨_, rfl⟩
    rw [hj]
    have h1 := (cosA_near (r := j) (by omega)).trans (near_zs (r := j) (by omega)).2.symm
    have h2 := (sinA_near (r := j) (by omega)).trans (near_zs (r := j) (by omega)).1.symm
    obtain ⟨z1, z2⟩ := z_sub (a := 5400000) (b := j) (by omega)
    rw [show 5400000 - j = k by omega] at z1 z2
    obtain ⟨q1, q2, q3, q4⟩ := q_natz
    have u := z_unit j
    obtain ⟨b1, b2⟩ := sq_one u
    obtain ⟨b3, b4⟩ := sq_one (x := zc j) (y := zs j) (by grind)
    rw [z1, z2]
    generalize zs 5400000 = s at *
    generalize zc 5400000 = c at *
    generalize zs j = x at *
    generalize zc j = y at *
    obtain ⟨p1, p2⟩ := rabs (x := s - 1) (y := y) (m := e60) (f := 1) (by grind) (by unfold e60 at *; grind) b3 b4
    obtain ⟨p3, p4⟩ := rabs (x := c) (y := x) (m := e60) (f := 1) (by grind) (by grind) b1 b2
    obtain ⟨p5, p6⟩ := rabs (x := s - 1) (y := x) (m := e60) (f := 1) (by grind) (by unfold e60 at *; grind) b1 b2
    obtain ⟨p7, p8⟩ := rabs (x := c) (y := y) (m := e60) (f := 1) (by grind) (by grind) b3 b4
    obtain ⟨n1, n2⟩ := h1
    obtain ⟨n3, n4⟩ := h2
    unfold e60 sml eA at *
    constructor
    · constructor <;> grind
    · constructor <;> grind
  · rw [if_neg h, if_neg h]
    have h1 := (sinA_near (r := k) (by omega)).trans (near_zs (r := k) (by omega)).1.symm
    have h2 := (cosA_near (r := k) (by omega)).trans (near_zs (r := k) (by omega)).2.symm
    exact ⟨h1.le (by unfold sml eA; grind), h2.le (by unfold sml eA; grind)⟩
def rchB (u v : Int) (k : Nat) : Bool := if k = 0 then true else if k = 2700000 then decide (u ≤ v) else decide (siA k * u ≤ coA k * v)
theorem div_mono {a b : Int} (h : a ≤ b) : (a : Rat) / (m192 : Rat) ≤ (b : Rat) / (m192 : Rat) := by
  rw [Rat.div_def, Rat.div_def]
  exact Rat.mul_le_mul_of_nonneg_right (castle h) (Rat.le_of_lt (Rat.inv_pos.2 m192_rat))
end Go.Proofs.YtnnmfdeeicpdlaaGreat
/- Directions of points: from the program's angle to whole angles of the exact rotation. No program in sight. -/
namespace Go.Proofs.YtnnmfdeeicpdlaaGreat
open Go.RowKit

theorem back_q (k : Nat) : Nr (zS ((k : Int) - 5400000)) (-(zc k)) (2 * e60) ∧ Nr (zC ((k : Int) - 5400000)) (zs k) (2 * e60) := by
  obtain ⟨a1, a2⟩ := Z_addN k 5400000
  obtain ⟨q1, q2, q3, q4⟩ := q_natz
  have u := z_unit k
  obtain ⟨b1, b2⟩ := sq_one u
  obtain ⟨b3, b4⟩ := sq_one (x := zc k) (y := zs k) (by grind)
  rw [show ((5400000 : Nat) : Int) = 5400000 from rfl] at a1 a2
  rw [a1, a2]
  generalize zs 5400000 = s at *
  generalize zc 5400000 = c at *
  generalize zs k = x at *
  generalize zc k = y at *
  obtain ⟨p1, p2⟩ := rabs (x := s - 1) (y := y) (m := e60) (f := 1) (by grind) (by unfold e60 at *; grind) b3 b4
  obtain ⟨p3, p4⟩ := rabs (x := c) (y := x) (m := e60) (f := 1) (by grind) (by grind) b1 b2
  obtain ⟨p5, p6⟩ := rabs (x := s - 1) (y := x) (m := e60) (f := 1) (by grind) (by unfold e60 at *; grind) b1 b2
  obtain ⟨p7, p8⟩ := rabs (x := c) (y := y) (m := e60) (f := 1) (by grind) (by grind) b3 b4
  constructor
  · constructor <;> grind
  · constructor <;> grind
end Go.Proofs.YtnnmfdeeicpdlaaGreat
