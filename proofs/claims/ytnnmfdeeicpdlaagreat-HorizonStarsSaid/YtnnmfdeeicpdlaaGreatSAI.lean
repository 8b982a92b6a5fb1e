/- Contracts and plain laws, several texts in one: NeQ; SaP; SaQ; SaR; Hs1; Row -/
import Derived.Test.YtnnmfdeeicpdlaaGreatProg
import Derived.WalkKit
import Derived.WalkSpells
import Derived.WalkLawsBesides
import Derived.Lib.Hide
import Derived.BigQuiet
import Derived.Deep.Slices
import Derived.Deep.AppendLies
import Derived.Maps.AppendAt
import Derived.Laws.AppendOwnNone
import Derived.Laws.OwnMore
import Derived.WideShapes
import Derived.Lib.SmallJoins
import Derived.Test.YtnnmfdeeicpdlaaGreatSAA
import Derived.Test.YtnnmfdeeicpdlaaGreatSAC
import Derived.Test.YtnnmfdeeicpdlaaGreatSAH
/- An ex-meridian altitude has the latitude: the plain law, second part. No program in sight. -/
namespace Go.Proofs.YtnnmfdeeicpdlaaGreat
open Go.RowKit

theorem sq_nn (x : Rat) : 0 ≤ x * x := by
  rcases (Rat.le_total : (0 : Rat) ≤ x ∨ x ≤ 0) with g | g
  · exact rmul0 g g
  · have := rmul0 (show 0 ≤ -x by grind) (show 0 ≤ -x by grind); grind
theorem alt_unit (lat dec : Int) {z : Rat} (z0 : -1 ≤ z) (z1 : z ≤ 1) : -1 ≤ zS lat * zS dec + zC lat * zC dec * z ∧ zS lat * zS dec + zC lat * zC dec * z ≤ 1 := by
  have u := Z_unit lat
  have v := Z_unit dec
  generalize zS lat = a at *
  generalize zC lat = b at *
  generalize zS dec = c at *
  generalize zC dec = d at *
  have s1 := sq_nn (a - c)
  have s2 := sq_nn (a + c)
  have s3 := sq_nn (b - d)
  have s4 := sq_nn (b + d)
  obtain ⟨p1, p2⟩ := rabs (x := z) (y := b * d) (m := 1) (f := (b * b + d * d) / 2) z0 z1 (by grind) (by grind)
  constructor <;> grind
theorem castlt {a b : Int} (h : (a : Rat) < (b : Rat)) : a < b := by exact_mod_cast h
theorem alt_some {lat dec lha : Int} (h0 : -5400000 ≤ lat) (h1 : lat ≤ 5400000) (g0 : -5400000 ≤ dec) (g1 : dec ≤ 5400000) :
    asE (altS0 lat lat dec dec lha lha) (altS1 lat lat dec dec lha lha) = 0 ∧ -5400000 ≤ asL (altS0 lat lat dec dec lha lha) (altS1 lat lat dec dec lha lha) ∧ asL (altS0 lat lat dec dec lha lha) (altS1 lat lat dec dec lha lha) ≤ asH (altS0 lat lat dec dec lha lha) (altS1 lat lat dec dec lha lha) ∧ asH (altS0 lat lat dec dec lha lha) (altS1 lat lat dec dec lha lha) ≤ 5400000 := by
  obtain ⟨-, z0, z1⟩ := Z_in (lha % 21600000)
  obtain ⟨X0, X1⟩ := alt_unit lat dec z0 z1
  obtain ⟨a, b⟩ := alt_InR (lha := lha) h0 h1 g0 g1
  have hf := alt_fx lat lat dec dec lha lha
  have hf' := fxB_iff.1 hf
  generalize altS0 lat lat dec dec lha lha = S0 at *
  generalize altS1 lat lat dec dec lha lha = S1 at *
  generalize zS lat * zS dec + zC lat * zC dec * zC (lha % 21600000) = X at *
  have t0 : 10 * t30 < 1 := by unfold t30; grind
  have c0 : (S0 : Rat) < ((1073741825 : Int) : Rat) := by push_cast; grind
  have c1 : ((-1073741825 : Int) : Rat) < (S1 : Rat) := by push_cast; grind
  have d0 : S0 < 1073741825 := castlt c0
  have d1 : -1073741825 < S1 := castlt c1
  have hE : asE S0 S1 = 0 := by rw [asE_at, hf, if_neg (by decide), mn_eq, mx_eq, if_neg (by omega)]
  refine ⟨hE, ?_⟩
  unfold asL asH
  rw [if_pos hE, if_pos hE]
  have i1 := asnI_in (v := mx S0 (-1073741824)) (by rw [mx_eq]; omega)
  have i2 := asnI_in (v := -(mn S1 1073741824)) (by rw [mn_eq]; omega)
  have hs := asn_sum (y := mx S0 (-1073741824)) (by rw [mx_eq]; omega) (by rw [mx_eq]; omega)
  have hm := asnI_mono (v := -(mn S1 1073741824)) (u := -(mx S0 (-1073741824))) (by rw [mn_eq]; omega) (by rw [mx_eq, mn_eq]; omega)
  omega
end Go.Proofs.YtnnmfdeeicpdlaaGreat
/- Directions of points: what the program's decisions mean for the exact rotation. No program in sight. -/
namespace Go.Proofs.YtnnmfdeeicpdlaaGreat
open Go.RowKit

def eA : Rat := 1 / 25000000000000000000
end Go.Proofs.YtnnmfdeeicpdlaaGreat
/- Directions of points: from the program's angle to whole angles of the exact rotation. No program in sight. -/
namespace Go.Proofs.YtnnmfdeeicpdlaaGreat
open Go.RowKit

end Go.Proofs.YtnnmfdeeicpdlaaGreat
/- Directions of points of a box about the pole star: they are within 185001 units. No program in sight. -/
namespace Go.Proofs.YtnnmfdeeicpdlaaGreat
open Go.RowKit

theorem b_at (m : Nat) (n q x y x' y' : Int) (hm : n = (m : Int)) (hq : q = n + 5400000) (h0 : 0 < m) (h1 : m < 2700000) (h2 : m ≠ 1800000) (h : ((octS m : Nat) : Int) = x ∧ ((octC m : Nat) : Int) = y) (hx : x + 1 = x') (hy : y + 1 = y') : bLo n = x ∧ bHi n = x' ∧ bLo q = y ∧ bHi q = y' := by
  have e1 := b_one (n := n) (by omega) (by omega)
  have e2 := b_two (n := q) (by omega) (by omega)
  have t1 : n.toNat = m := by omega
  have t2 : (10800000 - q).toNat = 5400000 - m := by omega
  rw [t1] at e1
  rw [t2] at e2
  have s1 := sinQ_s (n := m) (by omega) h2 (by omega)
  have s2 := sinQ_c (n := 5400000 - m) (by omega) (by omega)
  rw [show 5400000 - (5400000 - m) = m by omega] at s2
  have o1 := oneQ_at m
  rw [if_neg (by omega)] at o1
  have o2 := oneQ_at (5400000 - m)
  rw [if_neg (by omega)] at o2
  unfold hiQ at e1 e2
  rw [s1, h.1, o1, hx] at e1
  rw [s2, h.2, o2, hy] at e2
  exact ⟨e1.1, e1.2, e2.1, e2.2⟩
theorem oct_is {r x y : Nat} {a b : Int} (h : RotN r x y) (ha : ((x / 73786976294838206464 : Nat) : Int) = a) (hb : ((y / 73786976294838206464 : Nat) : Int) = b) : ((octS r : Nat) : Int) = a ∧ ((octC r : Nat) : Int) = b := by
  have := oct_of h
  rw [this.1, this.2]
  exact ⟨ha, hb⟩
theorem b_180 : bLo 180000 = 56195305 ∧ bHi 180000 = 56195306 ∧ bLo 5580000 = 1072270298 ∧ bHi 5580000 = 1072270299 :=
  b_at 180000 180000 5580000 _ _ _ _ rfl rfl (by decide) (by decide) (by decide) (oct_is rot_180000 (by decide +kernel) (by decide +kernel)) rfl rfl
theorem b_185 : bLo 185000 = 57754799 ∧ bHi 185000 = 57754800 ∧ bLo 5585000 = 1072187431 ∧ bHi 5585000 = 1072187432 :=
  b_at 185000 185000 5585000 _ _ _ _ rfl rfl (by decide) (by decide) (by decide) (oct_is rot_185000 (by decide +kernel) (by decide +kernel)) rfl rfl
theorem b_1 : bHi 1 = 313 :=
  (b_at 1 1 5400001 312 1073741823 313 1073741824 rfl rfl (by decide) (by decide) (by decide) (oct_is rot_1 (by decide +kernel) (by decide +kernel)) rfl rfl).2.1
theorem zS_min {m : Int} (h0 : 1 ≤ m) (h1 : m ≤ 5400000) : 312 ≤ 1073741824 * zS m := by
  have hd := (cell_all (n := m) (by omega) (by omega)).dn
  have hm := (b_up (a := 1) (b := m) (by decide) h0 h1).2
  rw [b_1] at hm
  have := castle hm
  unfold g24 at hd
  push_cast at this
  grind
end Go.Proofs.YtnnmfdeeicpdlaaGreat
/- A star over the equator: the sine near the horizon grows. No program in sight. -/
namespace Go.Proofs.YtnnmfdeeicpdlaaGreat
open Go.RowKit

theorem b_25 : bLo 25000 = 7808402 :=
  (b_at 25000 25000 5425000 7808402 1073713431 7808403 1073713432 rfl rfl (by decide) (by decide) (by decide) (oct_is rot_25000 (by decide +kernel) (by decide +kernel)) rfl rfl).1
theorem b_30 : bLo 30000 = 9370046 :=
  (b_at 30000 30000 5430000 9370046 1073700939 9370047 1073700940 rfl rfl (by decide) (by decide) (by decide) (oct_is rot_30000 (by decide +kernel) (by decide +kernel)) rfl rfl).1
theorem b_35 : bHi 35000 = 10931671 :=
  (b_at 35000 35000 5435000 10931670 1073686175 10931671 1073686176 rfl rfl (by decide) (by decide) (by decide) (oct_is rot_35000 (by decide +kernel) (by decide +kernel)) rfl rfl).2.1
theorem b_1795 : bLo 1795000 = 535517877 :=
  (b_at 1795000 1795000 7195000 535517877 930667559 535517878 930667560 rfl rfl (by decide) (by decide) (by decide) (oct_is rot_1795000 (by decide +kernel) (by decide +kernel)) rfl rfl).1
theorem zc_low {n : Int} (h0 : 0 ≤ n) (h1 : n ≤ 185000) : 1072187430 ≤ 1073741824 * zC n := by
  have hb := (b_down (a := n + 5400000) (b := 5585000) (by omega) (by omega) (by decide)).1
  rw [b_185.2.2.1] at hb
  have h2 := (cell_all (n := n + 5400000) (by omega) (by omega)).lo
  obtain ⟨q1, q2⟩ := zC_quarter n
  have ht : t31 + 1073741824 * (2 * e60) ≤ 1 / 1000000000 := by unfold t31 e60; grind
  have hc := castle hb
  push_cast at hc
  grind
theorem castle_inv {a b : Int} (h : (a : Rat) ≤ (b : Rat)) : a ≤ b := by exact_mod_cast h
theorem b_rise {n : Int} (h0 : -185000 ≤ n) (h1 : n ≤ -1) : bHi n + 7500000 ≤ bLo (n + 25000) := by
  have c1 := (cell_all (n := n) (by omega) (by omega)).dn
  have c2 := (cell_all (n := n + 25000) (by omega) (by omega)).up
  have c3 := (cell_all (n := 25000) (by decide) (by decide)).lo
  rw [b_25] at c3
  have z1 := zc_low (n := -n) (by omega) (by omega)
  rw [zC_neg] at z1
  have z2 := zS_min (m := -n) (by omega) (by omega)
  rw [zS_neg] at z2
  have z3 := (Z_add n 25000).1
  have z4 := (Z_in 25000).2.2
  have z5 := (Z_in n).2.2
  rw [z3] at c2
  have ht : t31 ≤ 1 / 1000000000 := by unfold t31; grind
  have hg : (0 : Rat) ≤ g24 := by unfold g24; grind
  push_cast at c3
  have hk : ((bHi n : Int) : Rat) + 7500000 ≤ ((bLo (n + 25000) : Int) : Rat) := by
    generalize zS n = a at *
    generalize zC n = b at *
    generalize zS 25000 = s at *
    generalize zC 25000 = c at *
    have p1 : 0 ≤ (-a) * (1 - c) := Rat.mul_nonneg (by grind) (by grind)
    have p2 : 0 ≤ (1073741824 * b - 1072187430) * (1073741824 * s - 7808401) := Rat.mul_nonneg (by grind) (by grind)
    grind
  have hk2 : ((bHi n + 7500000 : Int) : Rat) ≤ ((bLo (n + 25000) : Int) : Rat) := by push_cast; exact hk
  exact castle_inv hk2
def hsX : Int := bLo 33999 * 1073741824
def hsY : Int := bHi 34001 * 1073741824
theorem hs_num : 10061010283003904 ≤ hsX ∧ hsY ≤ 11737792358907904 := by
  have h1 := (b_up (a := 30000) (b := 33999) (by decide) (by decide) (by decide)).1
  have h2 := (b_up (a := 34001) (b := 35000) (by decide) (by decide) (by decide)).2
  rw [b_30] at h1
  rw [b_35] at h2
  unfold hsX hsY
  omega
theorem hs_gap {cd0 cd1 n m : Int} (h0 : 530000000 ≤ cd0) (h1 : cd0 ≤ cd1) (h2 : cd1 ≤ cd0 + 30000000) (hn : -185000 ≤ n) (hm : n + 25000 ≤ m) (hm1 : m ≤ 5400000) (h : -hsY < cd0 * bHi n) : -hsX ≤ cd1 * bLo m := by
  obtain ⟨x1, x2⟩ := hs_num
  have mono := (b_up (a := n + 25000) (b := m) (by omega) hm hm1).1
  by_cases hp : 0 ≤ bLo m
  · have := Int.mul_nonneg (show 0 ≤ cd1 by omega) hp
    omega
  · have hy : bHi n < 0 := by
      have := (b_up (a := n) (b := m) (by omega) (by omega) hm1).1
      by_cases hn0 : 0 ≤ n
      · have := bLo_pos (n := n) hn0 (by omega)
        omega
      · have := b_rise (n := n) hn (by omega)
        omega
    have hn1 : n ≤ -1 := by
      by_cases hn0 : 0 ≤ n
      · have := bLo_pos (n := n) hn0 (by omega)
        have := (bb_le n).1
        omega
      · omega
    have hr := b_rise hn hn1
    have hl : -57754799 ≤ bHi n := by
      have e := (b_up (a := -185000) (b := n) (by decide) hn (by omega)).2
      have f := (b_four (n := -185000) (by decide) (by decide)).2
      have g := (b_one (n := 185000) (by decide) (by decide)).1
      rw [b_185.1] at g
      rw [show (-(-185000 : Int)).toNat = (185000 : Int).toNat from rfl, ← g] at f
      omega
    have m1 := Int.mul_le_mul_of_nonneg_left (show bHi n + 7500000 ≤ bLo m by omega) (show 0 ≤ cd1 by omega)
    have m2 : cd1 * (bHi n + 7500000) = cd0 * bHi n + (cd1 - cd0) * bHi n + cd1 * 7500000 := by grind
    have m3 := Int.mul_le_mul (a := cd1 - cd0) (b := -(bHi n)) (c := 30000000) (d := 57754799) (by omega) (by omega) (by omega) (by omega)
    rw [Int.mul_neg] at m3
    omega
end Go.Proofs.YtnnmfdeeicpdlaaGreat
/- Rows of records of k cells: slices that read as a list, rows of the call's own, an append of one record or of a whole slice, a store into a record. No function of the program. -/
namespace Go.Proofs.YtnnmfdeeicpdlaaGreat
open Go.RowKit

structure RecT (α : Type) where
  E : TypeId
  S : TypeId
  k : Nat
  bytes : Nat
  enc : α → List Value
  wf : α → Prop
structure RecOk {α : Type} (R : RecT α) : Prop where
  len : ∀ x, (R.enc x).length = R.k
  one : ∀ x, ∀ u ∈ R.enc x, u.oneCell' = true
  pos : 0 < R.k
  und : Tryz.prog.underlying R.S = some (.slice R.E)
  info : ∃ i z, Tryz.prog.info? R.E = some i ∧ i.zero = some z ∧ i.size = R.k ∧ i.bytes = R.bytes ∧ z.cells.size = R.k
  small : R.bytes ≤ 1000
variable {α : Type} {R : RecT α}

theorem flat_len (hR : RecOk R) (l : List α) : (l.flatMap R.enc).length = l.length * R.k := by
  induction l with
  | nil => simp
  | cons x l ih => rw [List.flatMap_cons, List.length_append, hR.len, ih, List.length_cons, Nat.succ_mul, Nat.add_comm]
theorem flat_get (hR : RecOk R) : ∀ {l : List α} {i j : Nat} {x : α}, l[i]? = some x → j < R.k → (l.flatMap R.enc)[i * R.k + j]? = (R.enc x)[j]?
  | [], i, j, x, h, _ => by simp at h
  | y :: l, 0, j, x, h, hj => by
    simp only [List.getElem?_cons_zero, Option.some.injEq] at h
    subst h
    rw [List.flatMap_cons, List.getElem?_append_left (by rw [hR.len]; omega)]
    congr 1; omega
  | y :: l, i + 1, j, x, h, hj => by
    rw [List.getElem?_cons_succ] at h
    rw [List.flatMap_cons, List.getElem?_append_right (by rw [hR.len, Nat.succ_mul]; omega), hR.len]
    rw [show (i + 1) * R.k + j - R.k = i * R.k + j by rw [Nat.succ_mul]; omega]
    exact flat_get hR h hj
theorem flat_set (hR : RecOk R) : ∀ {l : List α} {i j : Nat} {x y : α} {u : Value}, l[i]? = some x → j < R.k → R.enc y = (R.enc x).set j u → (l.flatMap R.enc).set (i * R.k + j) u = (l.set i y).flatMap R.enc
  | [], i, j, x, y, u, h, _, _ => by simp at h
  | z :: l, 0, j, x, y, u, h, hj, he => by
    simp only [List.getElem?_cons_zero, Option.some.injEq] at h
    subst h
    rw [List.set_cons_zero, List.flatMap_cons, List.flatMap_cons, List.set_append, if_pos (by rw [hR.len]; omega), he]
    congr 2; omega
  | z :: l, i + 1, j, x, y, u, h, hj, he => by
    rw [List.getElem?_cons_succ] at h
    rw [List.set_cons_succ, List.flatMap_cons, List.flatMap_cons, List.set_append, if_neg (by rw [hR.len, Nat.succ_mul]; omega), hR.len]
    rw [show (i + 1) * R.k + j - R.k = i * R.k + j by rw [Nat.succ_mul]; omega, flat_set hR h hj he]

def SlG (R : RecT α) (w : World) (v : Value) (l : List α) : Prop :=
  ∃ a cap, v = .slice a l.length cap ∧ (l.length ≤ cap ∧ cap ≤ 9223372036854775807) ∧ (∀ x ∈ l, R.wf x) ∧
    (l ≠ [] → ∃ b o, a = some ⟨b, o, none⟩ ∧ b < w.heap.size ∧ ∀ (i : Nat) x, l[i]? = some x → ∀ (j : Nat) u, (R.enc x)[j]? = some u → w.cell? ⟨b, o + (i * R.k + j), none⟩ = some u)
theorem SlG.ext {w w' : World} {v : Value} {l : List α} (h : SlG R w v l) (hb : Below w.heap.size w w') : SlG R w' v l := by
  obtain ⟨a, cap, h1, h2, h0, h3⟩ := h
  refine ⟨a, cap, h1, h2, h0, fun hl => ?_⟩
  obtain ⟨b, o, h4, h5, h6⟩ := h3 hl
  exact ⟨b, o, h4, Nat.lt_of_lt_of_le h5 hb.size, fun i x hx j u hu => (hb.cell (p := ⟨b, o + (i * R.k + j), none⟩) h5).trans (h6 i x hx j u hu)⟩
theorem SlG.bw {w : World} {v : Value} {l : List α} (h : SlG R w v l) (d : Ext) : SlG R (bw w d) v l := h.ext (bw_below w d)
theorem SlG.lay {w : World} {v : Value} {l : List α} (h : SlG R w v l) (L : List (Obj ⊕ Ext)) : SlG R (lay w L) v l := h.ext (lay_extends w L)
theorem lay_appG (w : World) (A B : List (Obj ⊕ Ext)) : lay w (A ++ B) = lay (lay w B) A := by
  induction A with
  | nil => rfl
  | cons x A ih =>
    cases x with
    | inl o => exact congrArg (fun W => World.alloc W o) ih
    | inr d => exact congrArg (fun W => Go.Proofs.YtnnmfdeeicpdlaaGreat.bw W d) ih
theorem lay_belowG {w : World} {A B : List (Obj ⊕ Ext)} : Below (lay w B).heap.size (lay w B) (lay w (A ++ B)) := by rw [lay_appG]; exact lay_extends _ _
theorem slG_on {w : World} {v : Value} {l : List α} {A B : List (Obj ⊕ Ext)} (h : SlG R (lay w B) v l) : SlG R (lay w (A ++ B)) v l := h.ext lay_belowG
theorem SlG.nil (R : RecT α) (w : World) : SlG R w (.slice none 0 0) [] := ⟨none, 0, rfl, by simp, fun _ h => absurd h (List.not_mem_nil), fun h => absurd rfl h⟩
theorem SlG.open {w : World} {v : Value} {l : List α} (h : SlG R w v l) (hl : 0 < l.length) :
    ∃ b o cap, v = .slice (some ⟨b, o, none⟩) l.length cap ∧ (l.length ≤ cap ∧ cap ≤ 9223372036854775807) ∧ b < w.heap.size ∧ ∀ (i : Nat) x, l[i]? = some x → ∀ (j : Nat) u, (R.enc x)[j]? = some u → w.cell? ⟨b, o + (i * R.k + j), none⟩ = some u := by
  obtain ⟨a, cap, rfl, h2, _, h3⟩ := h
  obtain ⟨b, o, rfl, h5, h6⟩ := h3 (by intro e; rw [e] at hl; exact Nat.lt_irrefl 0 hl)
  exact ⟨b, o, cap, rfl, h2, h5, h6⟩
theorem SlG.wf {w : World} {v : Value} {l : List α} (h : SlG R w v l) : ∀ x ∈ l, R.wf x := by
  obtain ⟨_, _, _, _, h, _⟩ := h; exact h
theorem SlG.form {w : World} {v : Value} {l : List α} (h : SlG R w v l) : ∃ a cap, v = .slice a l.length cap := by
  obtain ⟨a, c, e, _⟩ := h; exact ⟨a, c, e⟩
def OwG (R : RecT α) (w : World) (base : Nat) (v : Value) (l : List α) : Prop :=
  w.ownsRow base R.E R.k v l.length (l.flatMap R.enc) ∧ ∀ x ∈ l, R.wf x
theorem OwG.nil (R : RecT α) (w : World) (base : Nat) : OwG R w base (.slice none 0 0) [] := ⟨World.ownsRow_nil w base _ _, fun _ h => absurd h (List.not_mem_nil)⟩
theorem OwG.form {w : World} {base : Nat} {v : Value} {l : List α} (h : OwG R w base v l) : ∃ a cap, v = .slice a l.length cap := by
  rcases h.1.2 with ⟨rfl, hz⟩ | ⟨g, cap, cur, rfl, _⟩
  · exact ⟨none, 0, by rw [hz]⟩
  · exact ⟨_, cap, rfl⟩
theorem OwG.form1 {w : World} {base : Nat} {v : Value} {l : List α} (h : OwG R w base v l) (hl : 0 < l.length) : ∃ g cap, v = .slice (some ⟨g, 0, none⟩) l.length cap ∧ base ≤ g ∧ g < w.heap.size ∧ l.length ≤ cap ∧ cap ≤ 9223372036854775807 := by
  rcases h.1.2 with ⟨rfl, hz⟩ | ⟨g, cap, cur, rfl, h1, h2, h3, h4, _⟩
  · omega
  · have hM : maxLen = 9223372036854775807 := by decide
    exact ⟨g, cap, rfl, h1, (Array.getElem?_eq_some_iff.1 h2).1, h3, by omega⟩
theorem OwG.cell (hR : RecOk R) {w : World} {base g cap n : Nat} {l : List α} (h : OwG R w base (.slice (some ⟨g, 0, none⟩) n cap) l) {i j : Nat} {x : α} {u : Value} (hx : l[i]? = some x) (hu : (R.enc x)[j]? = some u) : w.cell? ⟨g, i * R.k + j, none⟩ = some u := by
  have hn : n = l.length := by
    obtain ⟨a, c, e⟩ := h.form
    cases e; rfl
  subst hn
  have hi := (List.getElem?_eq_some_iff.1 hx).1
  have hj : j < R.k := by have := (List.getElem?_eq_some_iff.1 hu).1; rw [hR.len] at this; exact this
  rw [h.1.cellAt _ (by have : (i + 1) * R.k ≤ l.length * R.k := Nat.mul_le_mul_right _ hi
                       rw [Nat.succ_mul] at this; omega), flat_get hR hx hj, hu]
theorem OwG.froz {w : World} {base g cap n : Nat} {l : List α} (h : OwG R w base (.slice (some ⟨g, 0, none⟩) n cap) l) (j : Nat) : w.frozen? ⟨g, j, none⟩ = false := by
  have hn : n = l.length := by
    obtain ⟨a, c, e⟩ := h.form
    cases e; rfl
  subst hn
  exact h.1.frozenAt j
theorem OwG.sl (hR : RecOk R) {w : World} {base : Nat} {v : Value} {l : List α} (h : OwG R w base v l) : SlG R w v l := by
  by_cases hl : l = []
  · subst hl
    rcases h.1.2 with ⟨rfl, hz⟩ | ⟨g, cap, cur, rfl, _, _, h3, h4, _⟩
    · exact SlG.nil R w
    · have hM : maxLen = 9223372036854775807 := by decide
      exact ⟨_, cap, rfl, ⟨h3, by omega⟩, h.2, fun hne => absurd rfl hne⟩
  · have hl' : 0 < l.length := List.length_pos_iff.2 hl
    obtain ⟨g, cap, rfl, h1, h2, h3⟩ := h.form1 hl'
    exact ⟨_, cap, rfl, h3, h.2, fun _ => ⟨g, 0, rfl, h2, fun i x hx j u hu => by rw [Nat.zero_add]; exact h.cell hR hx hu⟩⟩
theorem OwG.ext {w w' : World} {base : Nat} {v : Value} {l : List α} (h : OwG R w base v l) (hb : Below w.heap.size w w') : OwG R w' base v l := by
  refine ⟨⟨h.1.1, h.1.2.imp id ?_⟩, h.2⟩
  rintro ⟨g, cap, cur, e, h1, h2, h3⟩
  exact ⟨g, cap, cur, e, h1, (hb.block g (Array.getElem?_eq_some_iff.1 h2).1).trans h2, h3⟩
theorem OwG.lay {w : World} {base : Nat} {v : Value} {l : List α} (h : OwG R w base v l) (L : List (Obj ⊕ Ext)) : OwG R (lay w L) base v l := h.ext (lay_extends w L)
theorem OwG.bw {w : World} {base : Nat} {v : Value} {l : List α} (h : OwG R w base v l) (d : Ext) : OwG R (bw w d) base v l := h.ext (bw_below w d)
theorem OwG.le {w : World} {base base' : Nat} {v : Value} {l : List α} (h : OwG R w base v l) (hb : base' ≤ base) : OwG R w base' v l := ⟨⟨h.1.1, h.1.2.imp id fun ⟨g, cap, cur, e, h1, h2⟩ => ⟨g, cap, cur, e, Nat.le_trans hb h1, h2⟩⟩, h.2⟩
theorem owG_on {w : World} {base : Nat} {v : Value} {l : List α} {A B : List (Obj ⊕ Ext)} (h : OwG R (lay w B) base v l) : OwG R (lay w (A ++ B)) base v l := h.ext lay_belowG

theorem push_rec (hR : RecOk R) {ops : Array Oper} {rest : List Oper} {o : Oper} {a : Act} {Q : Exit → Act → World → Prop} (hgd : o.guard = none) (s x : Operand)
    (ho : o.op = .call { callee := .builtin .append, args := #[s, x], argTypes := #[R.S, R.S] })
    (W0 : World) (wb : World) (c : α) (cs : Array Value) (te : TypeId) (xb : Nat) (v : Value) (l : List α) (hw : Below W0.heap.size W0 wb) (hown : OwG R wb W0.heap.size v l)
    (hcell : wb.heap[xb]? = some (.cells cs te (0, 0))) (hcs : cs.toList = R.enc c) (hs : a.eval s = v) (hx : a.eval x = .slice (some ⟨xb, 0, none⟩) 1 1)
    (hn : l.length ≤ 1000000000) (hc : R.wf c)
    (h : ∀ v' d, OwG R (Go.Proofs.YtnnmfdeeicpdlaaGreat.bw W0 d) W0.heap.size v' (l ++ [c]) → wpList Tryz.prog ops Q rest (a.put o.dst v') (Go.Proofs.YtnnmfdeeicpdlaaGreat.bw W0 d)) :
    wpList Tryz.prog ops Q (o :: rest) a wb := by
  obtain ⟨i, z, hi, hz0, hz1, hz2, hz3⟩ := hR.info
  have hM : maxLen = 9223372036854775807 := by decide
  have hb := hR.small
  have hb2 : (l.length + 1) * R.bytes ≤ 1000000001 * 1000 := Nat.mul_le_mul (by omega) hb
  refine wpList_append_lies wb hgd s x R.S ho W0.heap.size R.E i z R.k R.bytes hR.und hi hz0 hz1 hz2 hz3 hR.pos v l.length (l.flatMap R.enc) hs hown.1 ⟨xb, 0, none⟩ 1 1 (R.enc c) hx (by rw [hR.len, Nat.one_mul]) (by rw [← hcs]; exact World.news_of_block hcell) (hR.one c) (by decide) (by omega) (by omega) hw.size wb.heap.size rfl ?_
  intro g cap w' hown' hg hat _
  obtain ⟨d, hd⟩ := bw_of (w := W0) (w' := w') (hw.grown hg hw.size (fun k hk => (hown.1.lt k hk).1))
  subst hd
  refine h _ d ⟨?_, fun y hy => ?_⟩
  · rw [List.flatMap_append, List.length_append]
    simpa using hown'
  · rcases List.mem_append.1 hy with hy | hy
    · exact hown.2 y hy
    · rw [List.mem_singleton.1 hy]; exact hc
theorem push_slG (hR : RecOk R) {ops : Array Oper} {rest : List Oper} {o : Oper} {a : Act} {Q : Exit → Act → World → Prop} (hgd : o.guard = none) (s x : Operand)
    (ho : o.op = .call { callee := .builtin .append, args := #[s, x], argTypes := #[R.S, R.S] })
    (W0 : World) (wb : World) (v1 : Value) (l1 : List α) (A : Option Addr) (n c : Nat) (l2 : List α) (hw : Below W0.heap.size W0 wb) (hown : OwG R wb W0.heap.size v1 l1)
    (hsrc : SlG R wb (.slice A n c) l2) (hA : A = none → c = 0) (hs : a.eval s = v1) (hx : a.eval x = .slice A n c) (hn : l1.length + l2.length ≤ 1000000000)
    (h : ∀ v' d, OwG R (Go.Proofs.YtnnmfdeeicpdlaaGreat.bw W0 d) W0.heap.size v' (l1 ++ l2) → wpList Tryz.prog ops Q rest (a.put o.dst v') (Go.Proofs.YtnnmfdeeicpdlaaGreat.bw W0 d)) :
    wpList Tryz.prog ops Q (o :: rest) a wb := by
  obtain ⟨i, z, hi, hz0, hz1, hz2, hz3⟩ := hR.info
  have hM : maxLen = 9223372036854775807 := by decide
  obtain ⟨a', cap', he, hcc, hwf, hcell⟩ := hsrc
  simp only [Value.slice.injEq] at he
  obtain ⟨rfl, rfl, rfl⟩ := he
  cases A with
  | none =>
    obtain rfl := hA rfl
    have hl2 : l2 = [] := by
      rcases List.eq_nil_or_concat l2 with h | ⟨_, _, h⟩
      · exact h
      · have : l2 ≠ [] := by rw [h]; simp
        obtain ⟨_, _, h, _⟩ := hcell this
        cases h
    subst hl2
    obtain ⟨d, rfl⟩ := bw_of hw
    refine wpList_append_own_none hgd s x R.S ho W0.heap.size R.E i R.k hR.und hi v1 l1.length (l1.flatMap R.enc) hs hown.1 hx ?_
    exact h v1 d (by rw [List.append_nil]; exact hown)
  | some ad =>
    have hb2 : (l1.length + l2.length) * R.bytes ≤ 1000000000 * 1000 := Nat.mul_le_mul hn hR.small
    refine wpList_append_own wb hgd s x R.S ho W0.heap.size R.E i z R.k R.bytes hR.und hi hz0 hz1 hz2 hz3 hR.pos v1 l1.length (l1.flatMap R.enc) hs hown.1 ad l2.length c (l2.flatMap R.enc) hx (flat_len hR l2) ?_ ?_ (by omega) (by omega) hw.size ?_
    · intro j u hu
      have hj : j < l2.length * R.k := by have := (List.getElem?_eq_some_iff.1 hu).1; rw [flat_len hR] at this; exact this
      have hne : l2 ≠ [] := by intro e; rw [e] at hj; simp at hj
      obtain ⟨b, o', e, _, hr⟩ := hcell hne
      cases e
      have hq : j / R.k < l2.length := Nat.div_lt_of_lt_mul (by rw [Nat.mul_comm]; exact hj)
      have hm : j % R.k < R.k := Nat.mod_lt _ hR.pos
      have e1 : j = j / R.k * R.k + j % R.k := by rw [Nat.mul_comm]; exact (Nat.div_add_mod j R.k).symm
      have hx' : l2[j / R.k]? = some l2[j / R.k] := List.getElem?_eq_getElem hq
      rw [e1, flat_get hR hx' hm] at hu
      have h3 := hr _ _ hx' _ _ hu
      rw [← e1] at h3
      have hadd : (⟨b, o', none⟩ : Addr).add j = ⟨b, o' + j, none⟩ := by
        unfold Addr.add
        split
        · rename_i h0
          have : j = 0 := by simpa using h0
          subst this; rfl
        · rfl
      rw [hadd]
      exact h3
    · intro u hu
      obtain ⟨y, _, hy⟩ := List.mem_flatMap.1 hu
      exact hR.one y u hy
    · intro v' w' hown' hg _
      obtain ⟨d, hd⟩ := bw_of (w := W0) (w' := w') (hw.grown hg hw.size (fun k hk => (hown.1.lt k hk).1))
      subst hd
      refine h v' d ⟨by rw [List.length_append, List.flatMap_append]; exact hown', fun y hy => ?_⟩
      rcases List.mem_append.1 hy with hy | hy
      · exact hown.2 y hy
      · exact hwf y hy
theorem owG_empty (R : RecT α) {w : World} {L : List (Obj ⊕ Ext)} : OwG R (Go.Proofs.YtnnmfdeeicpdlaaGreat.lay w (.inl (.cells #[] R.E (0, 0)) :: L)) (Go.Proofs.YtnnmfdeeicpdlaaGreat.lay w L).heap.size (.slice (some ⟨posn w (shp L), 0, none⟩) 0 0) [] := by
  rw [← lay_size w L]
  exact ⟨World.ownsRow_lit (Go.Proofs.YtnnmfdeeicpdlaaGreat.lay w L) #[] 0 (Nat.le_refl _) (by decide) (by simp), fun _ h => absurd h (List.not_mem_nil)⟩
theorem owG_lit (hR : RecOk R) {w : World} {L : List (Obj ⊕ Ext)} {cs : Array Value} (l : List α) (hc : cs.toList = l.flatMap R.enc) (hl : l.length ≤ 1000) (hw : ∀ x ∈ l, R.wf x) :
    OwG R (Go.Proofs.YtnnmfdeeicpdlaaGreat.lay w (.inl (.cells cs R.E (0, 0)) :: L)) (Go.Proofs.YtnnmfdeeicpdlaaGreat.lay w L).heap.size (.slice (some ⟨posn w (shp L), 0, none⟩) l.length l.length) l := by
  rw [← lay_size w L]
  refine ⟨?_, hw⟩
  have := World.ownsRow_lit (base := (Go.Proofs.YtnnmfdeeicpdlaaGreat.lay w L).heap.size) (e := R.E) (size := R.k) (Go.Proofs.YtnnmfdeeicpdlaaGreat.lay w L) cs l.length (Nat.le_refl _) (by unfold maxLen; omega) (by rw [← Array.length_toList, hc, flat_len hR])
  rw [hc] at this
  exact this
theorem owG_store (hR : RecOk R) {w : World} {base g cap n : Nat} {l : List α} (h : OwG R w base (.slice (some ⟨g, 0, none⟩) n cap) l) {i j : Nat} {x y : α} {u : Value} (hx : l[i]? = some x) (hj : j < R.k) (he : R.enc y = (R.enc x).set j u) (hy : R.wf y) :
    OwG R (w.setCell ⟨g, i * R.k + j, none⟩ u) base (.slice (some ⟨g, 0, none⟩) n cap) (l.set i y) := by
  have hn : n = l.length := by
    obtain ⟨a, c, e⟩ := h.form
    cases e; rfl
  subst hn
  refine ⟨by have := (h.1.stored (i * R.k + j) u).1; rw [flat_set hR hx hj he] at this; rw [List.length_set]; exact this, fun z hz => ?_⟩
  rcases List.mem_or_eq_of_mem_set hz with hz | hz
  · exact h.2 z hz
  · rw [hz]; exact hy
theorem bw_storeG {w : World} {d : Ext} {g i : Nat} {v : Value} (hg : w.heap.size ≤ g) : ∃ d', (Go.Proofs.YtnnmfdeeicpdlaaGreat.bw w d).setCell ⟨g, i, none⟩ v = Go.Proofs.YtnnmfdeeicpdlaaGreat.bw w d' := by
  refine bw_of ?_
  have h1 := bw_below w d
  refine ⟨h1.1, h1.2, h1.3, ?_, fun k hk => ?_⟩
  · rw [World.size_setCell]; exact h1.size
  · rw [heap_setCell_other _ ⟨g, i, none⟩ k v (by intro e; have : k = g := by simpa using e
                                                  omega)]
    exact h1.block k hk
end Go.Proofs.YtnnmfdeeicpdlaaGreat
