/- Contracts and plain laws, several texts in one: WrF; WrG; WrH -/
import Derived.Test.YtkhhdpndcidmgaaGreatProg
import Derived.WalkKit
import Derived.WalkSpells
import Derived.WalkLawsBesides
import Derived.Lib.Hide
import Derived.BigQuiet
import Derived.Test.YtkhhdpndcidmgaaGreatTAE
import Derived.Test.YtkhhdpndcidmgaaGreatTAF
import Derived.Test.YtkhhdpndcidmgaaGreatTAI
import Derived.Test.YtkhhdpndcidmgaaGreatTBI
import Derived.Test.YtkhhdpndcidmgaaGreatTBJ
/- The angle of a point of the first quadrant against the finer rotation. No program in sight. -/
namespace Go.Proofs.YtkhhdpndcidmgaaGreat
open Go.RowKit

theorem bisF_inv {u v : Int} : ∀ {f l h : Nat}, l < h → h - l ≤ 2 ^ f → (l = 0 ∨ rchB u v l = true) → (h = 5400000 ∨ rchB u v h = false) →
    (bisF u v f l h = 0 ∨ rchB u v (bisF u v f l h) = true) ∧ (bisF u v f l h + 1 = 5400000 ∨ rchB u v (bisF u v f l h + 1) = false)
  | 0, l, h, c, hf, hl, hh => by
    have : h = l + 1 := by simp at hf; omega
    subst this
    exact ⟨hl, hh⟩
  | f + 1, l, h, c, hf, hl, hh => by
    rw [Nat.pow_succ] at hf
    unfold bisF
    by_cases c1 : l + 1 < h
    · rw [if_pos c1]
      by_cases c2 : rchB u v ((l + h) / 2) = true
      · rw [if_pos c2]
        exact bisF_inv (by omega) (by omega) (.inr c2) hh
      · rw [if_neg c2]
        exact bisF_inv (by omega) (by omega) hl (.inr (by simpa using c2))
    · rw [if_neg c1]
      have : h = l + 1 := by omega
      subst this
      exact ⟨hl, hh⟩
theorem bisF_is (u v : Int) : (bisF u v 23 0 5400000 = 0 ∨ rchB u v (bisF u v 23 0 5400000) = true) ∧ (bisF u v 23 0 5400000 + 1 = 5400000 ∨ rchB u v (bisF u v 23 0 5400000 + 1) = false) :=
  bisF_inv (by decide) (by decide) (.inl rfl) (.inl rfl)
theorem ang_loW {u v : Int} {k : Nat} (hk : k = bisF u v 23 0 5400000) (u0 : 0 < u) (u1 : u ≤ 2147483648) (v0 : 0 ≤ v) (v1 : v ≤ 2147483648) : (u : Rat) * ws k ≤ (v : Rat) * wc k + tolW := by
  have hl : k < 5400000 := by rw [hk]; exact bisF_lt (by decide)
  have hb := (bisF_is u v).1
  rw [← hk] at hb
  by_cases c : k = 0
  · subst c
    rw [ws_0, wc_0]
    have : (0 : Rat) ≤ (v : Rat) := castle v0
    unfold tolW
    grind
  · exact rch_yesW (by omega) hl (by omega) u1 v0 v1 (hb.resolve_left c)
theorem ang_hiW {u v : Int} {k : Nat} (hk : k = bisF u v 23 0 5400000) (u0 : 0 < u) (u1 : u ≤ 2147483648) (v0 : 0 ≤ v) (v1 : v ≤ 2147483648) : (v : Rat) * wc (k + 1) ≤ (u : Rat) * ws (k + 1) + tolW := by
  have hl : k < 5400000 := by rw [hk]; exact bisF_lt (by decide)
  have hb := (bisF_is u v).2
  rw [← hk] at hb
  by_cases c : k + 1 = 5400000
  · rw [c]
    obtain ⟨q1, q2, q3, q4⟩ := w_qnat
    have a0 : (0 : Rat) ≤ (v : Rat) := castle v0
    have a1 : (v : Rat) ≤ 2147483648 := castle v1
    have b0 : (1 : Rat) ≤ (u : Rat) := castle (show (1 : Int) ≤ u by omega)
    have e0 : (0 : Rat) < eW ∧ eW ≤ 1 / 1000 ∧ 2147483648 * eW ≤ tolW := by unfold eW tolW; refine ⟨?_, ?_, ?_⟩ <;> grind
    generalize ws 5400000 = s at *
    generalize wc 5400000 = y at *
    generalize eW = e at *
    have m1 := Rat.mul_le_mul_of_nonneg_left q2 a0
    have m2 := Rat.mul_le_mul_of_nonneg_right a1 (Rat.le_of_lt e0.1)
    have m3 := rmul0 (show (0 : Rat) ≤ (u : Rat) by grind) (show 0 ≤ s by grind)
    grind
  · exact rch_noW (by omega) (by omega) (by omega) u1 v0 v1 (hb.resolve_left c)
theorem ang_exW {u v : Int} {k : Nat} (hx : exF u v k = true) (u0 : 0 < u) (u1 : u ≤ 2147483648) : (v : Rat) * wc k ≤ (u : Rat) * ws k + tolW := by
  unfold exF at hx
  simp only [Bool.or_eq_true, decide_eq_true_eq] at hx
  have a0 : (0 : Rat) ≤ (u : Rat) := castle (Int.le_of_lt u0)
  have a1 : (u : Rat) ≤ 2147483648 := castle u1
  rcases hx with ⟨rfl, rfl⟩ | ⟨rfl, rfl⟩
  · rw [ws_0, wc_0]
    unfold tolW
    push_cast
    grind
  · obtain ⟨h1, h2⟩ := half_w
    generalize ws 2700000 = s at *
    generalize wc 2700000 = c at *
    have m1 := Rat.mul_le_mul_of_nonneg_left h2 a0
    have m2 := Rat.mul_le_mul_of_nonneg_right a1 (show (0 : Rat) ≤ 1 / 10000000000000000000000000000000000 by grind)
    unfold tolW
    grind
def crW (n : Int) (x y : Rat) : Rat := y * wC n - x * wS n
def tolR : Rat := 1 / 1000000000000000000000000000
theorem crW_rot (n : Int) {x y : Rat} (x0 : -2147483648 ≤ x) (x1 : x ≤ 2147483648) (y0 : -2147483648 ≤ y) (y1 : y ≤ 2147483648) : Nr (crW (n + 5400000) (-y) x) (crW n x y) tolR := by
  obtain ⟨a1, a2⟩ := W_add n 5400000
  obtain ⟨q1, q2, q3, q4⟩ := wq_near
  obtain ⟨⟨z1, z2⟩, z3, z4⟩ := W_in n
  unfold crW
  rw [a1, a2]
  clear a1 a2
  have e0 : (0 : Rat) < eW ∧ 4 * (4294967296 * eW) ≤ tolR := by unfold eW tolR; constructor <;> grind
  generalize wS 5400000 = s at *
  generalize wC 5400000 = c at *
  generalize wS n = a at *
  generalize wC n = b at *
  generalize eW = e at *
  obtain ⟨p1, p2⟩ := rabs (x := x) (y := a) (m := 2147483648) (f := 1) x0 x1 z1 z2
  obtain ⟨p3, p4⟩ := rabs (x := x) (y := b) (m := 2147483648) (f := 1) x0 x1 z3 z4
  obtain ⟨p5, p6⟩ := rabs (x := y) (y := a) (m := 2147483648) (f := 1) y0 y1 z1 z2
  obtain ⟨p7, p8⟩ := rabs (x := y) (y := b) (m := 2147483648) (f := 1) y0 y1 z3 z4
  obtain ⟨r1, r2⟩ := rabs (x := y * b - x * a) (y := s - 1) (m := 4294967296) (f := e) (by grind) (by grind) (by grind) (by grind)
  obtain ⟨r3, r4⟩ := rabs (x := x * b + y * a) (y := c) (m := 4294967296) (f := e) (by grind) (by grind) q1 q2
  constructor <;> grind
theorem quad_crW {q u v : Int} (q0 : 0 ≤ q) (q3 : q ≤ 3) (m : Nat) (u0 : 0 ≤ u) (u1 : u ≤ 2147483648) (v0 : 0 ≤ v) (v1 : v ≤ 2147483648) : Nr (crW (5400000 * q + (m : Int)) ((qx q u v : Int) : Rat) ((qy q u v : Int) : Rat)) ((v : Rat) * wc m - (u : Rat) * ws m) (3 * tolR) := by
  have a0 : (0 : Rat) ≤ (u : Rat) := castle u0
  have a1 : (u : Rat) ≤ 2147483648 := castle u1
  have b0 : (0 : Rat) ≤ (v : Rat) := castle v0
  have b1 : (v : Rat) ≤ 2147483648 := castle v1
  have h0 : crW (m : Int) (u : Rat) (v : Rat) = (v : Rat) * wc m - (u : Rat) * ws m := by unfold crW; rw [wS_nat, wC_nat]
  have t0 : (0 : Rat) ≤ tolR := by unfold tolR; grind
  have h1 := crW_rot (m : Int) (x := (u : Rat)) (y := (v : Rat)) (by grind) a1 (by grind) b1
  have h2 := crW_rot ((m : Int) + 5400000) (x := -(v : Rat)) (y := (u : Rat)) (by grind) (by grind) (by grind) a1
  have h3 := crW_rot ((m : Int) + 5400000 + 5400000) (x := -(u : Rat)) (y := -(v : Rat)) (by grind) (by grind) (by grind) (by grind)
  rw [h0] at h1
  have k2 := h2.trans h1
  have k3 := h3.trans k2
  rcases (show q = 0 ∨ q = 1 ∨ q = 2 ∨ q = 3 by omega) with rfl | rfl | rfl | rfl
  · rw [show 5400000 * 0 + (m : Int) = (m : Int) by omega, show qx 0 u v = u from rfl, show qy 0 u v = v from rfl, h0]
    constructor <;> grind
  · rw [show 5400000 * 1 + (m : Int) = (m : Int) + 5400000 by omega, show qx 1 u v = -v from rfl, show qy 1 u v = u from rfl]
    push_cast
    exact h1.le (by grind)
  · rw [show 5400000 * 2 + (m : Int) = (m : Int) + 5400000 + 5400000 by omega, show qx 2 u v = -u from rfl, show qy 2 u v = -v from rfl]
    push_cast
    exact k2.le (by grind)
  · rw [show 5400000 * 3 + (m : Int) = (m : Int) + 5400000 + 5400000 + 5400000 by omega, show qx 3 u v = v from rfl, show qy 3 u v = -u from rfl]
    push_cast
    rw [show -(-(v : Rat)) = (v : Rat) by grind] at k3
    exact k3.le (by grind)
end Go.Proofs.YtkhhdpndcidmgaaGreat
/- The angle of a point against the finer rotation. No program in sight. -/
namespace Go.Proofs.YtkhhdpndcidmgaaGreat
open Go.RowKit

theorem quad_exW {X Y : Int} (h : ¬ (X = 0 ∧ Y = 0)) : ∃ q u v k, QuadP X Y q u v k ∧ (angF X Y).2 = exF u v k := by
  by_cases c0 : 0 < X ∧ 0 ≤ Y
  · exact ⟨0, X, Y, _, ⟨by decide, by decide, c0.1, c0.2, by simp [qx], by simp [qy], rfl, by unfold angF; rw [if_pos c0]; rfl⟩, by unfold angF; rw [if_pos c0]; rfl⟩
  · by_cases c1 : 0 < Y ∧ X ≤ 0
    · exact ⟨1, Y, -X, _, ⟨by decide, by decide, c1.1, by omega, by simp [qx], by simp [qy], rfl, by unfold angF; rw [if_neg c0, if_pos c1]; rfl⟩, by unfold angF; rw [if_neg c0, if_pos c1]; rfl⟩
    · by_cases c2 : X < 0 ∧ Y ≤ 0
      · exact ⟨2, -X, -Y, _, ⟨by decide, by decide, by omega, by omega, by simp [qx], by simp [qy], rfl, by unfold angF; rw [if_neg c0, if_neg c1, if_pos c2]; rfl⟩, by unfold angF; rw [if_neg c0, if_neg c1, if_pos c2]; rfl⟩
      · exact ⟨3, -Y, X, _, ⟨by decide, by decide, by omega, by omega, by simp [qx], by simp [qy], rfl, by unfold angF; rw [if_neg c0, if_neg c1, if_neg c2]; rfl⟩, by unfold angF; rw [if_neg c0, if_neg c1, if_neg c2]; rfl⟩
def tolD : Rat := 1 / 100000000000000000000000
theorem num_D : tolW + 3 * tolR ≤ tolD := by unfold tolW tolR tolD; grind
theorem ang_crW {X Y : Int} (h : ¬ (X = 0 ∧ Y = 0)) (hX : -2147483648 ≤ X ∧ X ≤ 2147483648) (hY : -2147483648 ≤ Y ∧ Y ≤ 2147483648) :
    -tolD ≤ crW (angF X Y).1 (X : Rat) (Y : Rat) ∧ crW ((angF X Y).1 + if (angF X Y).2 = true then 0 else 1) (X : Rat) (Y : Rat) ≤ tolD := by
  obtain ⟨q, u, v, k, ⟨q0, q3, u0, v0, x, y, kv, ang⟩, hex⟩ := quad_exW h
  have hu : u ≤ 2147483648 ∧ v ≤ 2147483648 := by
    unfold qx at x
    unfold qy at y
    split at x <;> split at y <;> omega
  have n := num_D
  have e : ∀ m : Nat, Nr (crW (5400000 * q + (m : Int)) (X : Rat) (Y : Rat)) ((v : Rat) * wc m - (u : Rat) * ws m) (3 * tolR) := fun m => by
    rw [x, y]
    exact quad_crW q0 q3 m (by omega) hu.1 v0 hu.2
  rw [ang, hex]
  constructor
  · have l := ang_loW kv u0 hu.1 v0 hu.2
    obtain ⟨e1, e2⟩ := e k
    grind
  · split
    · have l := ang_exW ‹_› u0 hu.1 (v := v)
      obtain ⟨e1, e2⟩ := e k
      rw [Int.add_zero]
      grind
    · have l := ang_hiW kv u0 hu.1 v0 hu.2
      obtain ⟨e1, e2⟩ := e (k + 1)
      rw [show 5400000 * q + ((k + 1 : Nat) : Int) = 5400000 * q + (k : Int) + 1 by omega] at e1 e2
      grind
end Go.Proofs.YtkhhdpndcidmgaaGreat
/- A point of a box is near to a vector between two whole directions of the box's arc. No program in sight. -/
namespace Go.Proofs.YtkhhdpndcidmgaaGreat
open Go.RowKit

theorem pluck (α β ax ay bx by' cx cy : Rat) : (α * bx + β * by') * (ax * cy - ay * cx) = (α * cx + β * cy) * (ax * by' - ay * bx) + (α * ax + β * ay) * (bx * cy - by' * cx) := by grind
def eQ : Rat := 1 / 10000000000000000000000000000000000
theorem wS_np {n : Int} (h0 : 10800000 ≤ n) (h1 : n ≤ 21600000) : wS n ≤ eQ := by
  have h := wS_nn (n := 21600000 - n) (by omega) (by omega)
  obtain ⟨t1, t2⟩ := wS_turn (n - 21600000)
  rw [show n - 21600000 + 21600000 = n by omega] at t1 t2
  have g := wS_neg (21600000 - n)
  rw [show -(21600000 - n) = n - 21600000 by omega] at g
  unfold eW at t1 t2
  unfold eQ
  grind
theorem wC_np {n : Int} (h0 : 5400000 ≤ n) (h1 : n ≤ 16200000) : wC n ≤ eQ := by
  have h := wS_nn (n := 16200000 - n) (by omega) (by omega)
  obtain ⟨q1, q2⟩ := wC_quarter n
  obtain ⟨t1, t2⟩ := wS_turn (n + 5400000 - 21600000)
  rw [show n + 5400000 - 21600000 + 21600000 = n + 5400000 by omega] at t1 t2
  have g := wS_neg (16200000 - n)
  rw [show -(16200000 - n) = n + 5400000 - 21600000 by omega] at g
  unfold eW at q1 q2 t1 t2
  unfold eQ
  grind
theorem wC_n3 {n : Int} (h0 : 16200000 ≤ n) (h1 : n ≤ 21600000) : -eQ ≤ wC n := by
  have h := wS_nn (n := n - 16200000) (by omega) (by omega)
  obtain ⟨q1, q2⟩ := wC_quarter n
  obtain ⟨t1, t2⟩ := wS_turn (n - 16200000)
  rw [show n - 16200000 + 21600000 = n + 5400000 by omega] at t1 t2
  unfold eW at q1 q2 t1 t2
  unfold eQ
  grind
theorem wC_n0 {n : Int} (h0 : 0 ≤ n) (h1 : n ≤ 5400000) : -eQ ≤ wC n := by
  have h := wC_nn (n := n) (by omega) h1
  unfold eQ
  grind
theorem wS_n0 {n : Int} (h0 : 0 ≤ n) (h1 : n ≤ 10800000) : -eQ ≤ wS n := by
  have h := wS_nn (n := n) h0 h1
  unfold eQ
  grind
def HalfD (α β : Int) : Prop := (α = 1 ∧ β = 0) ∨ (α = -1 ∧ β = 0) ∨ (α = 0 ∧ β = 1) ∨ (α = 0 ∧ β = -1)
theorem half_D {x0 x1 y0 y1 : Int} (hn : ¬ oriB x0 x1 y0 y1) : ∃ α β : Int, HalfD α β ∧ ∀ X Y, x0 ≤ X → X ≤ x1 → y0 ≤ Y → Y ≤ y1 → 0 < α * X + β * Y := by
  unfold oriB at hn
  unfold HalfD
  by_cases h0 : 0 < x0
  · exact ⟨1, 0, by omega, fun X Y _ _ _ _ => by omega⟩
  · by_cases h1 : x1 < 0
    · exact ⟨-1, 0, by omega, fun X Y _ _ _ _ => by omega⟩
    · by_cases h2 : 0 < y0
      · exact ⟨0, 1, by omega, fun X Y _ _ _ _ => by omega⟩
      · exact ⟨0, -1, by omega, fun X Y _ _ _ _ => by omega⟩
theorem quad_D {α β q u v : Int} (hD : HalfD α β) (q0 : 0 ≤ q) (q3 : q ≤ 3) (u0 : 0 < u) (v0 : 0 ≤ v) (hp : 0 < α * qx q u v + β * qy q u v) {n : Int} (n0 : 5400000 * q ≤ n) (n1 : n ≤ 5400000 * q + 5400000) :
    -eQ ≤ (α : Rat) * wC n + (β : Rat) * wS n := by
  rcases (show q = 0 ∨ q = 1 ∨ q = 2 ∨ q = 3 by omega) with rfl | rfl | rfl | rfl
  · have a := wC_n0 (n := n) (by omega) (by omega)
    have b := wS_n0 (n := n) (by omega) (by omega)
    rcases hD with ⟨rfl, rfl⟩ | ⟨rfl, rfl⟩ | ⟨rfl, rfl⟩ | ⟨rfl, rfl⟩ <;> simp [qx, qy] at hp <;> first | (exfalso; omega) | (push_cast; grind)
  · have a := wC_np (n := n) (by omega) (by omega)
    have b := wS_n0 (n := n) (by omega) (by omega)
    rcases hD with ⟨rfl, rfl⟩ | ⟨rfl, rfl⟩ | ⟨rfl, rfl⟩ | ⟨rfl, rfl⟩ <;> simp [qx, qy] at hp <;> first | (exfalso; omega) | (push_cast; grind)
  · have a := wC_np (n := n) (by omega) (by omega)
    have b := wS_np (n := n) (by omega) (by omega)
    rcases hD with ⟨rfl, rfl⟩ | ⟨rfl, rfl⟩ | ⟨rfl, rfl⟩ | ⟨rfl, rfl⟩ <;> simp [qx, qy] at hp <;> first | (exfalso; omega) | (push_cast; grind)
  · have a := wC_n3 (n := n) (by omega) (by omega)
    have b := wS_np (n := n) (by omega) (by omega)
    rcases hD with ⟨rfl, rfl⟩ | ⟨rfl, rfl⟩ | ⟨rfl, rfl⟩ | ⟨rfl, rfl⟩ <;> simp [qx, qy] at hp <;> first | (exfalso; omega) | (push_cast; grind)
def nxI (p : Int × Bool) : Int := p.1 + if p.2 = true then 0 else 1
theorem ang_D {α β X Y : Int} (hD : HalfD α β) (h : ¬ (X = 0 ∧ Y = 0)) (hp : 0 < α * X + β * Y) :
    -eQ ≤ (α : Rat) * wC (angF X Y).1 + (β : Rat) * wS (angF X Y).1 ∧ -eQ ≤ (α : Rat) * wC (nxI (angF X Y)) + (β : Rat) * wS (nxI (angF X Y)) := by
  obtain ⟨q, u, v, k, P⟩ := quad_ex h
  have hk := P.lt
  have h1 := P.x
  have h2 := P.y
  rw [h1, h2] at hp
  have ha := P.ang
  refine ⟨quad_D hD P.q0 P.q3 P.u0 P.v0 hp (by omega) (by omega), quad_D hD P.q0 P.q3 P.u0 P.v0 hp ?_ ?_⟩ <;> unfold nxI <;> split <;> omega
theorem crs_boxR {x0 x1 y0 y1 a b : Int} {X Y : Rat} (h : ∀ j, j < 4 → 0 ≤ crs a b (crX x0 x1 j) (crY y0 y1 j)) (h0 : (x0 : Rat) ≤ X) (h1 : X ≤ (x1 : Rat)) (h2 : (y0 : Rat) ≤ Y) (h3 : Y ≤ (y1 : Rat)) : 0 ≤ (a : Rat) * Y - (b : Rat) * X := by
  have e0 := castle (h 0 (by decide))
  have e1 := castle (h 1 (by decide))
  have e2 := castle (h 2 (by decide))
  have e3 := castle (h 3 (by decide))
  unfold crs crX crY at e0 e1 e2 e3
  simp at e0 e1 e2 e3
  push_cast at e0 e1 e2 e3
  obtain ⟨p1, -⟩ := linR (k := (a : Rat)) h2 h3
  obtain ⟨-, p2⟩ := linR (k := (b : Rat)) h0 h1
  clear h h0 h1 h2 h3
  have c1 := Rat.mul_comm (a : Rat) Y
  have c2 := Rat.mul_comm (b : Rat) X
  have c3 := Rat.mul_comm (a : Rat) (y0 : Rat)
  have c4 := Rat.mul_comm (a : Rat) (y1 : Rat)
  have c5 := Rat.mul_comm (b : Rat) (x0 : Rat)
  have c6 := Rat.mul_comm (b : Rat) (x1 : Rat)
  rcases p1 with p1 | p1 <;> rcases p2 with p2 | p2 <;> grind
def tT : Rat := 1 / 10000000000000
theorem num_T : 2147483648 * tolD + eQ * 18446744073709551616 ≤ tT := by unfold tolD eQ tT; grind
theorem D_ge {α β : Int} (hD : HalfD α β) {x0 x1 y0 y1 : Int} (hx : x0 ≤ x1) (hy : y0 ≤ y1) (hp : ∀ X Y, x0 ≤ X → X ≤ x1 → y0 ≤ Y → Y ≤ y1 → 0 < α * X + β * Y) {X Y : Rat} (h0 : (x0 : Rat) ≤ X) (h1 : X ≤ (x1 : Rat)) (h2 : (y0 : Rat) ≤ Y) (h3 : Y ≤ (y1 : Rat)) : 1 ≤ (α : Rat) * X + (β : Rat) * Y := by
  have a := hp x0 y0 (Int.le_refl _) hx (Int.le_refl _) hy
  have b := hp x1 y1 hx (Int.le_refl _) hy (Int.le_refl _)
  rcases hD with ⟨rfl, rfl⟩ | ⟨rfl, rfl⟩ | ⟨rfl, rfl⟩ | ⟨rfl, rfl⟩
  · have := castle (show (1 : Int) ≤ x0 by omega)
    push_cast at this ⊢
    grind
  · have := castle (show x1 ≤ (-1 : Int) by omega)
    push_cast at this ⊢
    grind
  · have := castle (show (1 : Int) ≤ y0 by omega)
    push_cast at this ⊢
    grind
  · have := castle (show y1 ≤ (-1 : Int) by omega)
    push_cast at this ⊢
    grind
theorem D_le {α β : Int} (hD : HalfD α β) {X Y : Rat} (h0 : -2147483648 ≤ X) (h1 : X ≤ 2147483648) (h2 : -2147483648 ≤ Y) (h3 : Y ≤ 2147483648) : (α : Rat) * X + (β : Rat) * Y ≤ 2147483648 := by
  rcases hD with ⟨rfl, rfl⟩ | ⟨rfl, rfl⟩ | ⟨rfl, rfl⟩ | ⟨rfl, rfl⟩ <;> push_cast <;> grind
theorem cr_past {α β ax ay bx by' cx cy t : Rat} (hb : 1 ≤ α * bx + β * by') (hc : 0 ≤ α * cx + β * cy) (hc1 : α * cx + β * cy ≤ 2147483648) (ha : -eQ ≤ α * ax + β * ay) (h1 : -tolD ≤ ax * by' - ay * bx) (h2 : 0 ≤ bx * cy - by' * cx) (h3 : bx * cy - by' * cx ≤ 18446744073709551616) (ht : tT ≤ t) : -t ≤ ax * cy - ay * cx := by
  have P := pluck α β ax ay bx by' cx cy
  have n := num_T
  generalize α * bx + β * by' = B at *
  generalize α * cx + β * cy = C at *
  generalize α * ax + β * ay = A at *
  generalize ax * by' - ay * bx = U at *
  generalize bx * cy - by' * cx = V at *
  generalize ax * cy - ay * cx = W at *
  have hD : 0 ≤ tolD := by unfold tolD; grind
  have hQ : 0 ≤ eQ := by unfold eQ; grind
  have p1 := rmul0 hc (show 0 ≤ U + tolD by grind)
  have p2 := rmul0 (show 0 ≤ A + eQ by grind) h2
  have p3 := rmul (a := C) (b := 2147483648) (c := tolD) (d := tolD) hc hc1 hD Rat.le_refl
  have p4 := rmul (a := eQ) (b := eQ) (c := V) (d := 18446744073709551616) hQ Rat.le_refl h2 h3
  rcases (Rat.le_total : 0 ≤ W ∨ W ≤ 0) with g | g
  · unfold tT at ht; grind
  · have p5 := rmul0 (show 0 ≤ B - 1 by grind) (show 0 ≤ -W by grind)
    grind
theorem cr_past' {α β ax ay bx by' cx cy t : Rat} (hb : 1 ≤ α * bx + β * by') (hc : 0 ≤ α * cx + β * cy) (hc1 : α * cx + β * cy ≤ 2147483648) (ha : -eQ ≤ α * ax + β * ay) (h1 : ax * by' - ay * bx ≤ tolD) (h2 : bx * cy - by' * cx ≤ 0) (h3 : -18446744073709551616 ≤ bx * cy - by' * cx) (ht : tT ≤ t) : ax * cy - ay * cx ≤ t := by
  have P := pluck α β ax ay bx by' cx cy
  have n := num_T
  generalize α * bx + β * by' = B at *
  generalize α * cx + β * cy = C at *
  generalize α * ax + β * ay = A at *
  generalize ax * by' - ay * bx = U at *
  generalize bx * cy - by' * cx = V at *
  generalize ax * cy - ay * cx = W at *
  have hD : 0 ≤ tolD := by unfold tolD; grind
  have hQ : 0 ≤ eQ := by unfold eQ; grind
  have p1 := rmul0 hc (show 0 ≤ tolD - U by grind)
  have p2 := rmul0 (show 0 ≤ A + eQ by grind) (show 0 ≤ -V by grind)
  have p3 := rmul (a := C) (b := 2147483648) (c := tolD) (d := tolD) hc hc1 hD Rat.le_refl
  have p4 := rmul (a := eQ) (b := eQ) (c := -V) (d := 18446744073709551616) hQ Rat.le_refl (by grind) (by grind)
  rcases (Rat.le_total : 0 ≤ W ∨ W ≤ 0) with g | g
  · have p5 := rmul0 (show 0 ≤ B - 1 by grind) g
    grind
  · unfold tT at ht; grind
end Go.Proofs.YtkhhdpndcidmgaaGreat
