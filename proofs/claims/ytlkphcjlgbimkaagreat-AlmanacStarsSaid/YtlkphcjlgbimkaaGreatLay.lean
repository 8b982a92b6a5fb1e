/- Worlds written out: 'lay w L' is w with the segments L behind it (the latest first): a block that was made, or whatever a callee left. Addresses are written by the sizes of what lies before them. No program in sight. -/
import Derived.Test.YtlkphcjlgbimkaaGreatInfra
namespace Go.Proofs.YtlkphcjlgbimkaaGreat
open Go.RowKit

def Ext.n (d : Ext) : Nat := d.blocks.size
def lay (w : World) : List (Obj ⊕ Ext) → World
  | [] => w
  | .inl o :: L => (lay w L).alloc o
  | .inr d :: L => bw (lay w L) d
def shp : List (Obj ⊕ Ext) → List Nat
  | [] => []
  | .inl _ :: L => 1 :: shp L
  | .inr d :: L => d.n :: shp L
def posn (w : World) (p : List Nat) : Nat := w.heap.size + p.sum
/-- The object at a depth. -/
def objS : List (Obj ⊕ Ext) → Nat → Option Obj
  | .inl o :: _, 0 => some o
  | _ :: L, n + 1 => objS L n
  | _, _ => none
def cellS : List (Obj ⊕ Ext) → Nat → Nat → Option Value
  | .inl (.cells c _ _) :: _, 0, i => c[i]?
  | _ :: L, n + 1, i => cellS L n i
  | _, _, _ => none
def frozS : List (Obj ⊕ Ext) → Nat → Nat → Bool
  | .inl (.cells _ _ f) :: _, 0, i => decide (f.1 ≤ i) && decide (i < f.2)
  | _ :: L, n + 1, i => frozS L n i
  | _, _, _ => false
def updS : List (Obj ⊕ Ext) → Nat → Nat → Value → List (Obj ⊕ Ext)
  | .inl (.cells c t f) :: L, 0, i, v => .inl (.cells (c.setIfInBounds i v) t f) :: L
  | x :: L, n + 1, i, v => x :: updS L n i v
  | L, _, _, _ => L

section
variable (w : World) (o : Obj) (d : Ext) (L : List (Obj ⊕ Ext)) (x : Obj ⊕ Ext) (n i : Nat) (v : Value) (c : Array Value) (t : TypeId) (f : Nat × Nat)
@[go_sem] theorem lay_alloc : (lay w L).alloc o = lay w (.inl o :: L) := rfl
@[go_sem] theorem lay_bw : bw (lay w L) d = lay w (.inr d :: L) := rfl
@[go_sem] theorem shp_nil : shp [] = [] := rfl
@[go_sem] theorem shp_inl : shp (.inl o :: L) = 1 :: shp L := rfl
@[go_sem] theorem shp_inr : shp (.inr d :: L) = d.n :: shp L := rfl
@[go_sem] theorem objS_0 : objS (.inl o :: L) 0 = some o := rfl
@[go_sem] theorem objS_s : objS (x :: L) (n + 1) = objS L n := by cases x <;> rfl
@[go_sem] theorem cellS_0 : cellS (.inl (.cells c t f) :: L) 0 i = c[i]? := rfl
@[go_sem] theorem cellS_s : cellS (x :: L) (n + 1) i = cellS L n i := by cases x with | inl o => cases o <;> rfl | inr d => rfl
@[go_sem] theorem frozS_0 : frozS (.inl (.cells c t f) :: L) 0 i = (decide (f.1 ≤ i) && decide (i < f.2)) := rfl
@[go_sem] theorem frozS_s : frozS (x :: L) (n + 1) i = frozS L n i := by cases x with | inl o => cases o <;> rfl | inr d => rfl
@[go_sem] theorem updS_0 : updS (.inl (.cells c t f) :: L) 0 i v = .inl (.cells (c.setIfInBounds i v) t f) :: L := rfl
@[go_sem] theorem updS_s : updS (x :: L) (n + 1) i v = x :: updS L n i v := by cases x with | inl o => cases o <;> rfl | inr d => rfl
theorem shp_len : (shp L).length = L.length := by induction L with | nil => rfl | cons x L ih => cases x <;> simp [shp, ih]
@[go_sem] theorem lay_size : (lay w L).heap.size = posn w (shp L) := by
  induction L with
  | nil => simp [lay, shp, posn]
  | cons x L ih =>
    cases x with
    | inl o => simp only [lay, World.size_alloc, ih, shp, posn, List.sum_cons]; omega
    | inr d => simp only [lay, shp, posn, List.sum_cons, bw, Array.size_append, ih, Ext.n]; omega
theorem lay_extends : Below w.heap.size w (lay w L) := by
  induction L with
  | nil => exact Below.refl _ _
  | cons x L ih =>
    cases x with
    | inl o => exact ih.alloc ih.size o
    | inr d => exact below_bw ih ih.size
theorem lay_ex : ∃ d, lay w L = bw w d := bw_of (lay_extends w L)
@[go_sem] theorem lay_old (b : Nat) (h : b < w.heap.size) : (lay w L).cell? ⟨b, i, none⟩ = w.cell? ⟨b, i, none⟩ := (lay_extends w L).cell (p := ⟨b, i, none⟩) h
@[go_sem] theorem lay_oldf (b : Nat) (h : b < w.heap.size) : (lay w L).frozen? ⟨b, i, none⟩ = w.frozen? ⟨b, i, none⟩ := (lay_extends w L).frozen (p := ⟨b, i, none⟩) h
@[go_sem] theorem lay_oldb (b : Nat) (h : b < w.heap.size) : (lay w L).heap[b]? = w.heap[b]? := (lay_extends w L).block b h
@[go_sem] theorem lay_olds (b : Nat) (h : b < w.heap.size) : (lay w L).shape? b = w.shape? b := by unfold World.shape?; rw [lay_oldb w L b h]
@[go_sem] theorem lt_posn (p : List Nat) (b : Nat) (h : b < w.heap.size) : (b < posn w p) = True := eq_true (by unfold posn; omega)
@[go_sem] theorem le_posn (p : List Nat) (b : Nat) (h : b < w.heap.size) : (b ≤ posn w p) = True := eq_true (by unfold posn; omega)
@[go_sem] theorem base_le_posn (p : List Nat) : (w.heap.size ≤ posn w p) = True := eq_true (by unfold posn; omega)

end
/-- Is the segment at a depth a block of cells? -/
def isC : List (Obj ⊕ Ext) → Nat → Bool
  | .inl (.cells _ _ _) :: _, 0 => true
  | _ :: L, n + 1 => isC L n
  | _, _ => false
@[go_sem] theorem isC_0 (c : Array Value) (t : TypeId) (f : Nat × Nat) (L : List (Obj ⊕ Ext)) : isC (.inl (.cells c t f) :: L) 0 = true := rfl
@[go_sem] theorem isC_s (x : Obj ⊕ Ext) (L : List (Obj ⊕ Ext)) (n : Nat) : isC (x :: L) (n + 1) = isC L n := by cases x with | inl o => cases o <;> rfl | inr d => rfl

theorem lay_get (w : World) : ∀ (L : List (Obj ⊕ Ext)) (k : Nat) (o : Obj), objS L k = some o → (lay w L).heap[posn w ((shp L).drop (k + 1))]? = some o
  | [], k, o, h => by cases k <;> simp [objS] at h
  | .inl o' :: L, 0, o, h => by
    simp only [objS, Option.some.injEq] at h
    subst h
    simp only [shp, List.drop_succ_cons, List.drop_zero, ← lay_size]
    show ((lay w L).heap.push o')[_]? = _
    simp
  | .inr d :: L, 0, o, h => by simp [objS] at h
  | x :: L, k + 1, o, h => by
    rw [objS_s] at h
    have ih := lay_get w L k o h
    have hlt := (Array.getElem?_eq_some_iff.1 ih).1
    cases x with
    | inl o' => simp only [shp, List.drop_succ_cons]; exact (Below.heap_alloc _ _ _ hlt).trans ih
    | inr d => simp only [shp, List.drop_succ_cons]; exact (bw_get _ _ _ hlt).trans ih
theorem obj_of_isC : ∀ (L : List (Obj ⊕ Ext)) (k : Nat), isC L k = true → ∃ c t f, objS L k = some (.cells c t f)
  | [], k, h => by cases k <;> simp [isC] at h
  | .inl (.cells c t f) :: L, 0, _ => ⟨c, t, f, rfl⟩
  | x :: L, k + 1, h => by rw [isC_s] at h; rw [objS_s]; exact obj_of_isC L k h
  | .inr _ :: _, 0, h => by simp [isC] at h
  | .inl (.pending _ _) :: _, 0, h => by simp [isC] at h
  | .inl (.view _ _) :: _, 0, h => by simp [isC] at h
  | .inl (.number _ _) :: _, 0, h => by simp [isC] at h
  | .inl (.map _ _) :: _, 0, h => by simp [isC] at h
  | .inl (.chan _ _ _ _ _ _) :: _, 0, h => by simp [isC] at h
  | .inl (.stringIter _ _) :: _, 0, h => by simp [isC] at h
  | .inl (.mapIter _ _ _ _) :: _, 0, h => by simp [isC] at h
  | .inl (.loop _) :: _, 0, h => by simp [isC] at h
  | .inl (.deferred _) :: _, 0, h => by simp [isC] at h
  | .inl (.coro _) :: _, 0, h => by simp [isC] at h
  | .inl (.finalizers _ _) :: _, 0, h => by simp [isC] at h
theorem cellS_of : ∀ (L : List (Obj ⊕ Ext)) (k i : Nat) (c : Array Value) (t : TypeId) (f : Nat × Nat), objS L k = some (.cells c t f) → cellS L k i = c[i]? ∧ frozS L k i = (decide (f.1 ≤ i) && decide (i < f.2))
  | [], k, _, _, _, _, h => by cases k <;> simp [objS] at h
  | .inl o :: L, 0, _, _, _, _, h => by simp only [objS, Option.some.injEq] at h; subst h; exact ⟨rfl, rfl⟩
  | .inr _ :: _, 0, _, _, _, _, h => by simp [objS] at h
  | x :: L, k + 1, i, c, t, f, h => by rw [objS_s] at h; rw [cellS_s, frozS_s]; exact cellS_of L k i c t f h
theorem lay_set (w : World) (i : Nat) (v : Value) : ∀ (L : List (Obj ⊕ Ext)) (k : Nat), isC L k = true → (lay w L).setCell ⟨posn w ((shp L).drop (k + 1)), i, none⟩ v = lay w (updS L k i v)
  | [], k, h => by cases k <;> simp [isC] at h
  | .inl o :: L, 0, h => by
    cases o with
    | cells c t f =>
      simp only [shp, List.drop_succ_cons, List.drop_zero, ← lay_size, lay, updS]
      unfold World.setCell World.alloc
      congr 1
      apply Array.ext_getElem?
      intro k
      rw [Array.getElem?_modify]
      by_cases hk : (lay w L).heap.size = k
      · subst hk; simp
      · have hk' : k ≠ (lay w L).heap.size := fun e => hk e.symm
        simp [hk, hk', Array.getElem?_push]
    | _ => simp [isC] at h
  | .inr d :: L, 0, h => by simp [isC] at h
  | x :: L, k + 1, h => by
    rw [isC_s] at h
    have ih := lay_set w i v L k h
    obtain ⟨c, t, f, ho⟩ := obj_of_isC L k h
    have hlt := (Array.getElem?_eq_some_iff.1 (lay_get w L k _ ho)).1
    rw [updS_s]
    cases x with
    | inl o' => simp only [shp, List.drop_succ_cons, lay]; rw [World.setCell_alloc_past _ _ _ _ hlt, ih]
    | inr d => simp only [shp, List.drop_succ_cons, lay]; rw [bw_setCell _ _ _ _ _ hlt, ih]

section
variable (w : World) (L : List (Obj ⊕ Ext)) (p : List Nat) (i : Nat) (v : Value)
theorem depth_eq (h : (shp L).drop (L.length - p.length) = p) (h2 : p.length < L.length) : p = (shp L).drop (L.length - p.length - 1 + 1) := by
  rw [show L.length - p.length - 1 + 1 = L.length - p.length by omega]; exact h.symm
@[go_sem] theorem lay_cell (h2 : p.length < L.length) (h : (shp L).drop (L.length - p.length) = p) (h3 : isC L (L.length - p.length - 1) = true) :
    (lay w L).cell? ⟨posn w p, i, none⟩ = cellS L (L.length - p.length - 1) i := by
  obtain ⟨c, t, f, ho⟩ := obj_of_isC L _ h3
  have := lay_get w L _ _ ho
  rw [← depth_eq L p h h2] at this
  rw [(cellS_of L _ i c t f ho).1]
  simp [World.cell?, this]
@[go_sem] theorem lay_froz (h2 : p.length < L.length) (h : (shp L).drop (L.length - p.length) = p) (h3 : isC L (L.length - p.length - 1) = true) :
    (lay w L).frozen? ⟨posn w p, i, none⟩ = frozS L (L.length - p.length - 1) i := by
  obtain ⟨c, t, f, ho⟩ := obj_of_isC L _ h3
  have := lay_get w L _ _ ho
  rw [← depth_eq L p h h2] at this
  rw [(cellS_of L _ i c t f ho).2]
  obtain ⟨f1, f2⟩ := f
  simp [World.frozen?, this]
@[go_sem] theorem lay_setCell (h2 : p.length < L.length) (h : (shp L).drop (L.length - p.length) = p) (h3 : isC L (L.length - p.length - 1) = true) :
    (lay w L).setCell ⟨posn w p, i, none⟩ v = lay w (updS L (L.length - p.length - 1) i v) := by
  have := lay_set w i v L _ h3
  rw [← depth_eq L p h h2] at this
  exact this
@[go_sem] theorem lay_heap (h2 : p.length < L.length) (h : (shp L).drop (L.length - p.length) = p) (h3 : (objS L (L.length - p.length - 1)).isSome = true) :
    (lay w L).heap[posn w p]? = objS L (L.length - p.length - 1) := by
  obtain ⟨o, ho⟩ := Option.isSome_iff_exists.1 h3
  have := lay_get w L _ _ ho
  rw [← depth_eq L p h h2] at this
  rw [this, ho]
end
theorem lay_start {P : Program} {f : FuncId} {args : Array Value} {w : World} {R : Ending → World → Prop} (h : Calls P f args (lay w []) R) : Calls P f args w R := h
/-- A contract at a world of the class leaves a world of the class. -/
theorem bq {P : Program} {f : FuncId} {args : Array Value} {W : World} {v : Value} {C : World → Prop}
    (h : Calls P f args W fun e w' => e = .returned v ∧ ∃ d, w' = bw W d) (hC : ∀ d, C (bw W d)) : Calls P f args W fun e w' => e = .returned v ∧ C w' :=
  h.mono fun _ _ ⟨he, d, hw⟩ => ⟨he, by rw [hw]; exact hC d⟩
theorem bqs {P : Program} {f : FuncId} {args : Array Value} {W : World} {v : Value} {C : World → Prop}
    (h : Calls P f args W fun e w' => e = .returned v ∧ w' = W) (hC : C W) : Calls P f args W fun e w' => e = .returned v ∧ C w' :=
  h.mono fun _ _ ⟨he, hw⟩ => ⟨he, by rw [hw]; exact hC⟩
theorem lay_join (w : World) (L : List (Obj ⊕ Ext)) (d e : Ext) : ∃ x, bw (lay w (.inr d :: L)) e = lay w (.inr x :: L) := ⟨_, bw_bw (lay w L) d e⟩
/-- A cell that reads so reads so in each world further on. -/
theorem cell_on {w : World} {L : List (Obj ⊕ Ext)} {b i : Nat} {v : Value} (h : (lay w L).cell? ⟨b, i, none⟩ = some v) (x : Obj ⊕ Ext) : (lay w (x :: L)).cell? ⟨b, i, none⟩ = some v := by
  have hlt := World.block_lt_of_cell? _ _ h
  cases x with
  | inl o => exact (World.cell?_alloc_past _ _ _ hlt).trans h
  | inr d => exact (bw_cell _ _ _ _ hlt).trans h
structure CellMore (w : World) (L : List (Obj ⊕ Ext)) (b i : Nat) (v : Value) : Prop where
  m0 : (lay w L).cell? ⟨b, i, none⟩ = some v
  m1 : ∀ x1, (lay w (x1 :: L)).cell? ⟨b, i, none⟩ = some v
  m2 : ∀ x1 x2, (lay w (x1 :: x2 :: L)).cell? ⟨b, i, none⟩ = some v
  m3 : ∀ x1 x2 x3, (lay w (x1 :: x2 :: x3 :: L)).cell? ⟨b, i, none⟩ = some v
  m4 : ∀ x1 x2 x3 x4, (lay w (x1 :: x2 :: x3 :: x4 :: L)).cell? ⟨b, i, none⟩ = some v
  m5 : ∀ x1 x2 x3 x4 x5, (lay w (x1 :: x2 :: x3 :: x4 :: x5 :: L)).cell? ⟨b, i, none⟩ = some v
  m6 : ∀ x1 x2 x3 x4 x5 x6, (lay w (x1 :: x2 :: x3 :: x4 :: x5 :: x6 :: L)).cell? ⟨b, i, none⟩ = some v
theorem cell_more {w : World} {L : List (Obj ⊕ Ext)} {b i : Nat} {v : Value} (h : (lay w L).cell? ⟨b, i, none⟩ = some v) : CellMore w L b i v :=
  ⟨h, fun _ => cell_on h _, fun _ _ => cell_on (cell_on h _) _, fun _ _ _ => cell_on (cell_on (cell_on h _) _) _, fun _ _ _ _ => cell_on (cell_on (cell_on (cell_on h _) _) _) _,
    fun _ _ _ _ _ => cell_on (cell_on (cell_on (cell_on (cell_on h _) _) _) _) _, fun _ _ _ _ _ _ => cell_on (cell_on (cell_on (cell_on (cell_on (cell_on h _) _) _) _) _) _⟩
theorem lay_exb (w : World) (L : List (Obj ⊕ Ext)) (d : Ext) : ∃ e, bw (lay w L) d = bw w e := lay_ex w (.inr d :: L)
end Go.Proofs.YtlkphcjlgbimkaaGreat
