/- increments.over: the iterator made, the loop over it. -/
import Derived.RangeFuncNested
import Derived.RangeFuncBound
import Derived.RangeFuncCalls
import Derived.RangeFuncLeaves
import Derived.Shelf.Abstract
import Derived.Shelf.RegionOpen
import Derived.WalkKit
import Derived.OwnWalkIn
import Derived.TacticsInMore
import Derived.LoopNIn
import Derived.LoopIn
import Derived.Lib.Hide
import Derived.Test.YtknammeehedbdaaProg
import Derived.Test.YtknammeehedbdaaPlain
import Derived.Test.YtknammeehedbdaaRf2
namespace Go.Proofs.Ytknammeehedbdaa
open Go.RowKit Go.Shelf
attribute [local go_sem] Oper.semAt_some

@[local go_sem] theorem run_store_func {P : Program} {w : World} {a : Addr} {m : Mode} (f : Fn) (x y : Array Value) : (store a (.func f x y) m).run P w = stored P w a (.func f x y) m := run_store P w a _ m rfl
set_option maxHeartbeats 1000000 in
theorem inc_pieces0 (lo hi : Int) (g : Nat) (q : Value) (w : World) :
    Calls Try.prog 69 #[.int .i64 lo, .int .i64 hi, .func (.func g) #[] #[q]] (lay w []) fun e w' =>
      e = .returned (.func (.func 73) #[] #[.pointer (some ⟨posn w [1, 1, 1], 0, none⟩), .pointer (some ⟨posn w [], 0, none⟩), .pointer (some ⟨posn w [1], 0, none⟩), .pointer (some ⟨posn w [1, 1], 0, none⟩)]) ∧
      w' = lay w [.inl (.cells #[.func (.func 72) #[] #[.pointer (some ⟨posn w [1, 1], 0, none⟩)]] 72 (0, 0)), .inl (.cells #[.func (.func g) #[] #[q]] 72 (0, 0)), .inl (.cells #[.int .i64 hi] 3 (0, 0)), .inl (.cells #[.int .i64 lo] 3 (0, 0))] := by
  go_enter Try.func69, Try.ntmps69
  go_wp2
  go_ret
  exact ⟨rfl, rfl⟩
theorem posn_lay (w : World) (L : List (Obj ⊕ Ext)) (p : List Nat) : posn (lay w L) p = posn w (p ++ shp L) := by
  unfold posn; rw [lay_size]; unfold posn; simp; omega
theorem inc_pieces (lo hi : Int) (g : Nat) (q : Value) (w : World) (L : List (Obj ⊕ Ext)) :
    Calls Try.prog 69 #[.int .i64 lo, .int .i64 hi, .func (.func g) #[] #[q]] (lay w L) fun e w' =>
      e = .returned (.func (.func 73) #[] #[.pointer (some ⟨posn w (1 :: 1 :: 1 :: shp L), 0, none⟩), .pointer (some ⟨posn w (shp L), 0, none⟩), .pointer (some ⟨posn w (1 :: shp L), 0, none⟩), .pointer (some ⟨posn w (1 :: 1 :: shp L), 0, none⟩)]) ∧
      w' = lay w (.inl (.cells #[.func (.func 72) #[] #[.pointer (some ⟨posn w (1 :: 1 :: shp L), 0, none⟩)]] 72 (0, 0)) :: .inl (.cells #[.func (.func g) #[] #[q]] 72 (0, 0)) :: .inl (.cells #[.int .i64 hi] 3 (0, 0)) :: .inl (.cells #[.int .i64 lo] 3 (0, 0)) :: L) := by
  have h := inc_pieces0 lo hi g q (lay w L)
  simp only [posn_lay, ← lay_append, List.nil_append, List.cons_append] at h
  exact h

/-- The hull of a list of arcs, from a first one. -/
def hull2 (a b : Int × Int) : Int × Int := (min a.1 b.1, max a.2 b.2)
def hullL : List (Int × Int) → Int × Int
  | [] => (0, 0)
  | x :: l => l.foldl hull2 x
theorem hullL_snoc (l : List (Int × Int)) (x : Int × Int) (h : l ≠ []) : hullL (l ++ [x]) = hull2 (hullL l) x := by
  cases l with
  | nil => exact absurd rfl h
  | cons y l => simp [hullL, List.foldl_append]
theorem hullL_one (x : Int × Int) : hullL ([] ++ [x]) = x := rfl
theorem Kept.row {p : Nat → Prop} {W0 : World} (hp : ∀ k, p k → k < W0.heap.size) (W : World) (l : Nat) (o o' : Obj) (hl : W0.heap.size ≤ l) (_ : W.heap[l]? = some o) (_ : o.isCells = false) (_ : o.isWalk = false) : Kept p W (W.putObj l o') :=
  ⟨(grownBy_putObj' W l o').size, fun k hk => World.putObj_heap_other (by have := hp k hk; omega)⟩
theorem ownFrom_blk {β : Type} {B k : Nat} (hk : k < B) (f : β → Obj) : OwnFrom B (fun s (W : World) => W.heap[k]? = some (f s)) :=
  fun s X Y row hs hg hr => (hg.block k (Array.getElem?_eq_some_iff.1 hs).1 (fun e => by have := (hr k e.symm).1; omega)).trans hs
theorem cell_blk {W : World} {k i : Nat} {c : Array Value} {t : TypeId} {f : Nat × Nat} (h : W.heap[k]? = some (.cells c t f)) : W.cell? ⟨k, i, none⟩ = c[i]? := by
  unfold World.cell?; rw [h]; rfl
theorem froz_blk {W : World} {k i : Nat} {c : Array Value} {t : TypeId} (h : W.heap[k]? = some (.cells c t (0, 0))) : W.frozen? ⟨k, i, none⟩ = false := by
  unfold World.frozen?; rw [h]; rfl

theorem set_blk {W : World} {k i : Nat} {v : Value} {c : Array Value} {t : TypeId} {f : Nat × Nat} (h : W.heap[k]? = some (.cells c t f)) : (W.setCell ⟨k, i, none⟩ v).heap[k]? = some (.cells (c.setIfInBounds i v) t f) := by
  have hlt := (Array.getElem?_eq_some_iff.1 h).1
  have h' : W.heap[k] = .cells c t f := by simpa [Array.getElem?_eq_getElem hlt] using h
  show (W.heap.modify k _)[k]? = _
  rw [Array.getElem?_eq_getElem (by simpa using hlt), Array.getElem_modify_self, h']
  simp
theorem far_blk {W : World} {k b i : Nat} {v : Value} {o : Option Obj} (h : W.heap[k]? = o) (hk : k ≠ b) : (W.setCell ⟨b, i, none⟩ v).heap[k]? = o := (Below.heap_setCell W _ _ k hk).trans h
theorem Kept.set {p : Nat → Prop} {A B : World} (h : Kept p A B) {b i : Nat} {v : Value} (hb : ∀ k, p k → k ≠ b) : Kept p A (B.setCell ⟨b, i, none⟩ v) :=
  ⟨by simp only [World.setCell, Array.size_modify]; exact h.size, fun k hk => (Below.heap_setCell B _ _ k (hb k hk)).trans (h.same k hk)⟩
theorem kf_set {n : Nat} {A B : World} (h : KeepsFrom n A B) (b i : Nat) (v : Value) : KeepsFrom n A (B.setCell ⟨b, i, none⟩ v) := h.trans ((KeepsOthers.setCell _ _ _).from _)
/-- The value over a span, r being the bend. -/
def ovr (A : Int → Int × Int) (lo hi r : Int) : Int × Int :=
  if lo = hi ∧ lo % 3600000 = 0 then hullL (pcs A lo hi) else ((hullL (pcs A lo hi)).1 - cdiv (100 * r) 8, (hullL (pcs A lo hi)).2 + cdiv (100 * r) 8)
def Bnd (x : Int × Int) : Prop := -1099511627776 ≤ x.1 ∧ x.1 ≤ x.2 ∧ x.2 ≤ 1099511627776
theorem Bnd.hull {x y : Int × Int} (h : Bnd x) (k : Bnd y) : Bnd (hull2 x y) := by unfold Bnd hull2 at *; dsimp only at *; omega
theorem Bnd.fold (l : List (Int × Int)) : ∀ x, Bnd x → (∀ y ∈ l, Bnd y) → Bnd (l.foldl hull2 x) := by
  induction l with
  | nil => exact fun x h _ => h
  | cons y l ih => exact fun x h k => ih _ (h.hull (k y (List.mem_cons_self ..))) (fun z hz => k z (List.mem_cons_of_mem _ hz))
theorem Bnd.lst {l : List (Int × Int)} (h : ∀ y ∈ l, Bnd y) : Bnd (hullL l) := by
  cases l with
  | nil => exact ⟨by decide, by decide, by decide⟩
  | cons y l => exact Bnd.fold l y (h y (List.mem_cons_self ..)) (fun z hz => h z (List.mem_cons_of_mem _ hz))
theorem lin_ge {x0 x1 n B : Int} (h0 : B ≤ x0) (h1 : B ≤ x1) (n0 : 0 ≤ n) (n1 : n ≤ 3600000) : B ≤ (x0 * (3600000 - n) + x1 * n) / 3600000 := by
  have a := Int.mul_le_mul_of_nonneg_right h0 (show 0 ≤ 3600000 - n by omega)
  have b := Int.mul_le_mul_of_nonneg_right h1 n0
  rw [Int.mul_sub] at a
  omega
theorem lin_le {x0 x1 n B : Int} (h0 : x0 ≤ B) (h1 : x1 ≤ B) (n0 : 0 ≤ n) (n1 : n ≤ 3600000) : cdiv (x0 * (3600000 - n) + x1 * n) 3600000 ≤ B := by
  have a := Int.mul_le_mul_of_nonneg_right h0 (show 0 ≤ 3600000 - n by omega)
  have b := Int.mul_le_mul_of_nonneg_right h1 n0
  rw [Int.mul_sub B] at a
  unfold cdiv
  omega
theorem lin_mono {x0 x1 y0 y1 n : Int} (h0 : x0 ≤ y0) (h1 : x1 ≤ y1) (n0 : 0 ≤ n) (n1 : n ≤ 3600000) : (x0 * (3600000 - n) + x1 * n) / 3600000 ≤ cdiv (y0 * (3600000 - n) + y1 * n) 3600000 := by
  have a := Int.mul_le_mul_of_nonneg_right h0 (show 0 ≤ 3600000 - n by omega)
  have b := Int.mul_le_mul_of_nonneg_right h1 n0
  unfold cdiv
  omega
theorem ins_bnd {A : Int → Int × Int} (hA : ArcsOk A) (ms : Int) : Bnd (insL A ms, insH A ms) := by
  unfold insL insH Bnd
  split
  · exact ⟨hA.lo _, hA.le _, hA.hi _⟩
  · exact ⟨lin_ge (hA.lo _) (hA.lo _) (by omega) (by omega), lin_mono (hA.le _) (hA.le _) (by omega) (by omega), lin_le (hA.hi _) (hA.hi _) (by omega) (by omega)⟩
theorem pcs_bnd {A : Int → Int × Int} (hA : ArcsOk A) (lo hi : Int) : Bnd (hullL (pcs A lo hi)) := by
  refine Bnd.lst fun y hy => ?_
  unfold pcs hrs at hy
  rcases List.mem_append.1 hy with h | h
  · simp only [List.mem_cons, List.not_mem_nil, or_false] at h
    rcases h with rfl | rfl <;> exact ins_bnd hA _
  · obtain ⟨i, _, rfl⟩ := List.mem_map.1 h
    exact ⟨hA.lo _, hA.le _, hA.hi _⟩

set_option maxHeartbeats 4000000 in
set_option maxRecDepth 100000 in
theorem inc_over (A : Int → Int × Int) (g : Nat) (q : Value) (v : Value) (t : TrkV) (lo hi : Int) (w : World) (hA : ArcsOk A) (hT : Trk w v t)
    (l0 : 0 ≤ lo) (l1 : lo ≤ 86400000) (h0 : 0 ≤ hi) (h1 : hi ≤ 86400000) (r0 : 0 ≤ t.r) (r1 : t.r ≤ 100000)
    (eg : ∀ args w, (callFunc g args).run Try.prog w = .ok (.enter g args) w)
    (hat : ∀ W (h : Int), Kept (· < w.heap.size) w W → 0 ≤ h → h ≤ 24 → Calls Try.prog g #[.int .i64 h, q] W fun e w' => e = .returned (.agg #[.int .i64 ((A h).1), .int .i64 ((A h).2)]) ∧ ∃ d, w' = bw W d) :
    Calls Try.prog 55 #[v, .int .i64 lo, .int .i64 hi, .func (.func g) #[] #[q]] w fun e w' => e = .returned (.agg #[.int .i64 ((ovr A lo hi t.r).1), .int .i64 ((ovr A lo hi t.r).2)]) ∧ ∃ d, w' = bw w d := by
  obtain ⟨vg, vd, rfl, _⟩ := hT
  have HAT := Lib.hid hat
  clear hat
  refine (callsIn_wide (n := 20)).1 ?_
  refine callsIn_of_wp_marks Try.func55 rfl trivial ?_ rfl
  simp only [Try.ntmps55, List.size_toArray, List.length_cons, List.length_nil, Nat.reduceAdd, Nat.reduceSub, Array.replicate_succ, Array.replicate_zero, List.push_toArray, List.append_toArray, List.nil_append, List.cons_append]
  change Code.wpIn _ _ _ _ _ _ (lay w [])
  gi_wp2_with fail
  refine ⟨trivial, (callsIn_wide.2 (inc_pieces lo hi g q w _)).mono ?_⟩
  rintro e w' ⟨rfl, rfl⟩
  gi_wp2_with fail
  have q0 : posn w [] = w.heap.size := rfl
  have q1 : posn w [1] = w.heap.size + 1 := rfl
  have q2 : posn w [1, 1] = w.heap.size + 2 := rfl
  have q3 : posn w [1, 1, 1] = w.heap.size + 3 := rfl
  have q4 : posn w [1, 1, 1, 1] = w.heap.size + 4 := rfl
  have q5 : posn w [1, 1, 1, 1, 1] = w.heap.size + 5 := rfl
  have q6 : posn w [1, 1, 1, 1, 1, 1] = w.heap.size + 6 := rfl
  have q7 : posn w [1, 1, 1, 1, 1, 1, 1] = w.heap.size + 7 := rfl
  simp only [q0, q1, q2, q3, q4, q5, q6, q7]
  clear q0 q1 q2 q3 q4 q5 q6 q7
  obtain ⟨p, hp⟩ : ∃ p : Nat → Prop, p = fun k => k < w.heap.size ∨ (w.heap.size + 4 ≤ k ∧ k < w.heap.size + 8) := ⟨_, rfl⟩
  have hps : ∀ k, p k → k < w.heap.size + 8 := by intro k hk; rw [hp] at hk; rcases hk with h | h <;> omega
  have hpm : ∀ k, w.heap.size + 4 ≤ k → k < w.heap.size + 8 → p k := by intro k h1 h2; rw [hp]; exact .inr ⟨h1, h2⟩
  have hpl : ∀ k, k < w.heap.size → p k := by intro k h; rw [hp]; exact .inl h
  have hpn : ∀ k, p k → k ≠ w.heap.size + 2 ∧ k ≠ w.heap.size + 3 := by intro k hk; rw [hp] at hk; rcases hk with h | h <;> omega
  clear hp
  have r7 : (lay w [.inl (.cells #[.func (.func 72) #[] #[.pointer (some ⟨w.heap.size + 6, 0, none⟩)]] 72 (0, 0)), .inl (.cells #[.func (.func g) #[] #[q]] 72 (0, 0)), .inl (.cells #[.int .i64 hi] 3 (0, 0)), .inl (.cells #[.int .i64 lo] 3 (0, 0)), .inl (.cells #[.bool true] 4 (0, 0)), .inl (.cells #[.int .i64 0, .int .i64 0] 23 (0, 0)), .inl (.cells #[.int .i64 0, .int .i64 0] 23 (0, 0)), .inl (.cells #[.string t.s, vg, vd, .int .i64 t.p, .int .i64 t.q, .int .i64 t.r] 43 (0, 0))]).heap[w.heap.size + 7]? = some (.cells #[.func (.func 72) #[] #[.pointer (some ⟨w.heap.size + 6, 0, none⟩)]] 72 (0, 0)) := lay_get w _ 0 _ rfl
  have r6 : (lay w [.inl (.cells #[.func (.func 72) #[] #[.pointer (some ⟨w.heap.size + 6, 0, none⟩)]] 72 (0, 0)), .inl (.cells #[.func (.func g) #[] #[q]] 72 (0, 0)), .inl (.cells #[.int .i64 hi] 3 (0, 0)), .inl (.cells #[.int .i64 lo] 3 (0, 0)), .inl (.cells #[.bool true] 4 (0, 0)), .inl (.cells #[.int .i64 0, .int .i64 0] 23 (0, 0)), .inl (.cells #[.int .i64 0, .int .i64 0] 23 (0, 0)), .inl (.cells #[.string t.s, vg, vd, .int .i64 t.p, .int .i64 t.q, .int .i64 t.r] 43 (0, 0))]).heap[w.heap.size + 6]? = some (.cells #[.func (.func g) #[] #[q]] 72 (0, 0)) := lay_get w _ 1 _ rfl
  have r5 : (lay w [.inl (.cells #[.func (.func 72) #[] #[.pointer (some ⟨w.heap.size + 6, 0, none⟩)]] 72 (0, 0)), .inl (.cells #[.func (.func g) #[] #[q]] 72 (0, 0)), .inl (.cells #[.int .i64 hi] 3 (0, 0)), .inl (.cells #[.int .i64 lo] 3 (0, 0)), .inl (.cells #[.bool true] 4 (0, 0)), .inl (.cells #[.int .i64 0, .int .i64 0] 23 (0, 0)), .inl (.cells #[.int .i64 0, .int .i64 0] 23 (0, 0)), .inl (.cells #[.string t.s, vg, vd, .int .i64 t.p, .int .i64 t.q, .int .i64 t.r] 43 (0, 0))]).heap[w.heap.size + 5]? = some (.cells #[.int .i64 hi] 3 (0, 0)) := lay_get w _ 2 _ rfl
  have r4 : (lay w [.inl (.cells #[.func (.func 72) #[] #[.pointer (some ⟨w.heap.size + 6, 0, none⟩)]] 72 (0, 0)), .inl (.cells #[.func (.func g) #[] #[q]] 72 (0, 0)), .inl (.cells #[.int .i64 hi] 3 (0, 0)), .inl (.cells #[.int .i64 lo] 3 (0, 0)), .inl (.cells #[.bool true] 4 (0, 0)), .inl (.cells #[.int .i64 0, .int .i64 0] 23 (0, 0)), .inl (.cells #[.int .i64 0, .int .i64 0] 23 (0, 0)), .inl (.cells #[.string t.s, vg, vd, .int .i64 t.p, .int .i64 t.q, .int .i64 t.r] 43 (0, 0))]).heap[w.heap.size + 4]? = some (.cells #[.int .i64 lo] 3 (0, 0)) := lay_get w _ 3 _ rfl
  have r3 : (lay w [.inl (.cells #[.func (.func 72) #[] #[.pointer (some ⟨w.heap.size + 6, 0, none⟩)]] 72 (0, 0)), .inl (.cells #[.func (.func g) #[] #[q]] 72 (0, 0)), .inl (.cells #[.int .i64 hi] 3 (0, 0)), .inl (.cells #[.int .i64 lo] 3 (0, 0)), .inl (.cells #[.bool true] 4 (0, 0)), .inl (.cells #[.int .i64 0, .int .i64 0] 23 (0, 0)), .inl (.cells #[.int .i64 0, .int .i64 0] 23 (0, 0)), .inl (.cells #[.string t.s, vg, vd, .int .i64 t.p, .int .i64 t.q, .int .i64 t.r] 43 (0, 0))]).heap[w.heap.size + 3]? = some (.cells #[.bool true] 4 (0, 0)) := lay_get w _ 4 _ rfl
  have r2 : (lay w [.inl (.cells #[.func (.func 72) #[] #[.pointer (some ⟨w.heap.size + 6, 0, none⟩)]] 72 (0, 0)), .inl (.cells #[.func (.func g) #[] #[q]] 72 (0, 0)), .inl (.cells #[.int .i64 hi] 3 (0, 0)), .inl (.cells #[.int .i64 lo] 3 (0, 0)), .inl (.cells #[.bool true] 4 (0, 0)), .inl (.cells #[.int .i64 0, .int .i64 0] 23 (0, 0)), .inl (.cells #[.int .i64 0, .int .i64 0] 23 (0, 0)), .inl (.cells #[.string t.s, vg, vd, .int .i64 t.p, .int .i64 t.q, .int .i64 t.r] 43 (0, 0))]).heap[w.heap.size + 2]? = some (.cells #[.int .i64 0, .int .i64 0] 23 (0, 0)) := lay_get w _ 5 _ rfl
  have v1 : (lay w [.inl (.cells #[.func (.func 72) #[] #[.pointer (some ⟨w.heap.size + 6, 0, none⟩)]] 72 (0, 0)), .inl (.cells #[.func (.func g) #[] #[q]] 72 (0, 0)), .inl (.cells #[.int .i64 hi] 3 (0, 0)), .inl (.cells #[.int .i64 lo] 3 (0, 0)), .inl (.cells #[.bool true] 4 (0, 0)), .inl (.cells #[.int .i64 0, .int .i64 0] 23 (0, 0)), .inl (.cells #[.int .i64 0, .int .i64 0] 23 (0, 0)), .inl (.cells #[.string t.s, vg, vd, .int .i64 t.p, .int .i64 t.q, .int .i64 t.r] 43 (0, 0))]).heap[w.heap.size + 1]? = some (.cells #[.int .i64 0, .int .i64 0] 23 (0, 0)) := lay_get w _ 6 _ rfl
  have v0 : (lay w [.inl (.cells #[.func (.func 72) #[] #[.pointer (some ⟨w.heap.size + 6, 0, none⟩)]] 72 (0, 0)), .inl (.cells #[.func (.func g) #[] #[q]] 72 (0, 0)), .inl (.cells #[.int .i64 hi] 3 (0, 0)), .inl (.cells #[.int .i64 lo] 3 (0, 0)), .inl (.cells #[.bool true] 4 (0, 0)), .inl (.cells #[.int .i64 0, .int .i64 0] 23 (0, 0)), .inl (.cells #[.int .i64 0, .int .i64 0] 23 (0, 0)), .inl (.cells #[.string t.s, vg, vd, .int .i64 t.p, .int .i64 t.q, .int .i64 t.r] 43 (0, 0))]).heap[w.heap.size]? = some (.cells #[.string t.s, vg, vd, .int .i64 t.p, .int .i64 t.q, .int .i64 t.r] 43 (0, 0)) := lay_get w _ 7 _ rfl
  have hB := lay_extends w [.inl (.cells #[.func (.func 72) #[] #[.pointer (some ⟨w.heap.size + 6, 0, none⟩)]] 72 (0, 0)), .inl (.cells #[.func (.func g) #[] #[q]] 72 (0, 0)), .inl (.cells #[.int .i64 hi] 3 (0, 0)), .inl (.cells #[.int .i64 lo] 3 (0, 0)), .inl (.cells #[.bool true] 4 (0, 0)), .inl (.cells #[.int .i64 0, .int .i64 0] 23 (0, 0)), .inl (.cells #[.int .i64 0, .int .i64 0] 23 (0, 0)), .inl (.cells #[.string t.s, vg, vd, .int .i64 t.p, .int .i64 t.q, .int .i64 t.r] 43 (0, 0))]
  have hsz : (lay w [.inl (.cells #[.func (.func 72) #[] #[.pointer (some ⟨w.heap.size + 6, 0, none⟩)]] 72 (0, 0)), .inl (.cells #[.func (.func g) #[] #[q]] 72 (0, 0)), .inl (.cells #[.int .i64 hi] 3 (0, 0)), .inl (.cells #[.int .i64 lo] 3 (0, 0)), .inl (.cells #[.bool true] 4 (0, 0)), .inl (.cells #[.int .i64 0, .int .i64 0] 23 (0, 0)), .inl (.cells #[.int .i64 0, .int .i64 0] 23 (0, 0)), .inl (.cells #[.string t.s, vg, vd, .int .i64 t.p, .int .i64 t.q, .int .i64 t.r] 43 (0, 0))]).heap.size = w.heap.size + 8 := by rw [lay_size]; rfl
  generalize lay w [.inl (.cells #[.func (.func 72) #[] #[.pointer (some ⟨w.heap.size + 6, 0, none⟩)]] 72 (0, 0)), .inl (.cells #[.func (.func g) #[] #[q]] 72 (0, 0)), .inl (.cells #[.int .i64 hi] 3 (0, 0)), .inl (.cells #[.int .i64 lo] 3 (0, 0)), .inl (.cells #[.bool true] 4 (0, 0)), .inl (.cells #[.int .i64 0, .int .i64 0] 23 (0, 0)), .inl (.cells #[.int .i64 0, .int .i64 0] 23 (0, 0)), .inl (.cells #[.string t.s, vg, vd, .int .i64 t.p, .int .i64 t.q, .int .i64 t.r] 43 (0, 0))] = W0 at *
  have hK : ∀ W, Kept p W0 W → Kept (· < w.heap.size) w W := fun W k => ⟨Nat.le_trans hB.size k.size, fun i hi => (k.same i (hpl i hi)).trans (hB.block i hi)⟩
  refine wpIn_rangeFunc_ownH (F := Fence.wide) (n := 20) rfl (by decide) (gf := 73) (lb := #[.pointer (some ⟨w.heap.size + 7, 0, none⟩), .pointer (some ⟨w.heap.size + 4, 0, none⟩), .pointer (some ⟨w.heap.size + 5, 0, none⟩), .pointer (some ⟨w.heap.size + 6, 0, none⟩)]) rfl trivial (enters_of Try.func73 (by kernel_rfl) rfl)
    (pieces_stops 19 (by decide) A g q (w.heap.size + 7) (w.heap.size + 4) (w.heap.size + 5) (w.heap.size + 6) lo hi p W0 hA l0 l1 h0 h1 (fun k hk => by have := hps k hk; omega) (hpm _ (by omega) (by omega)) (hpm _ (by omega) (by omega)) (hpm _ (by omega) (by omega)) (hpm _ (by omega) (by omega))
      (cell_blk r7) (cell_blk r4) (cell_blk r5) (cell_blk r6) eg (fun W h k => HAT.out W h (hK W k)))
    Kept.trans (Kept.row (fun k hk => by have := hps k hk; omega)) (Below.refl _ _) (fun _ => rfl)
    (fun pre W => (((W.heap[w.heap.size + 2]? = some (.cells #[.int .i64 (hullL pre).1, .int .i64 (hullL pre).2] 23 (0, 0))) ∧ (W.heap[w.heap.size + 3]? = some (.cells #[.bool pre.isEmpty] 4 (0, 0)))) ∧
      ((W.heap[w.heap.size + 1]? = some (.cells #[.int .i64 0, .int .i64 0] 23 (0, 0))) ∧ (W.heap[w.heap.size]? = some (.cells #[.string t.s, vg, vd, .int .i64 t.p, .int .i64 t.q, .int .i64 t.r] 43 (0, 0))))) ∧ (Below w.heap.size w W ∧ w.heap.size + 8 ≤ W.heap.size))
    (fun _ _ _ => False)
    (OwnFrom.and (OwnFrom.and (OwnFrom.and (ownFrom_blk (by omega) (fun pre : List (Int × Int) => Obj.cells #[.int .i64 (hullL pre).1, .int .i64 (hullL pre).2] 23 (0, 0))) (ownFrom_blk (by omega) (fun pre : List (Int × Int) => Obj.cells #[.bool pre.isEmpty] 4 (0, 0)))) (OwnFrom.and (ownFrom_blk (by omega) (fun _ => Obj.cells #[.int .i64 0, .int .i64 0] 23 (0, 0))) (ownFrom_blk (by omega) (fun _ => Obj.cells #[.string t.s, vg, vd, .int .i64 t.p, .int .i64 t.q, .int .i64 t.r] 43 (0, 0))))) (OwnFrom.and (ownFrom_below (Nat.le_refl _) (by omega)) (fun _ _ _ _ hs hg _ => Nat.le_trans hs hg.size)))
    (fun _ _ _ _ _ hs _ _ => hs)
    ⟨⟨⟨r2, r3⟩, ⟨v1, v0⟩⟩, hB, by omega⟩
    (fun x a' W => ∃ Bx, w.heap.size + 8 ≤ Bx ∧ W.heap[Bx]? = some (.cells #[.int .i64 x.1, .int .i64 x.2] 23 (0, 0)) ∧ a' = { tmps := #[.agg #[.string t.s, vg, vd, .int .i64 t.p, .int .i64 t.q, .int .i64 t.r], .int .i64 lo, .int .i64 hi, .func (.func g) #[] #[q], .pointer (some ⟨w.heap.size, 0, none⟩), undef, undef, undef, .pointer (some ⟨w.heap.size + 1, 0, none⟩), .pointer (some ⟨w.heap.size + 2, 0, none⟩), .pointer (some ⟨w.heap.size + 3, 0, none⟩), .pointer (some ⟨Bx, 0, none⟩), undef, .int .i64 lo, .int .i64 hi, .func (.func g) #[] #[q], .func (.func 73) #[] #[.pointer (some ⟨w.heap.size + 7, 0, none⟩), .pointer (some ⟨w.heap.size + 4, 0, none⟩), .pointer (some ⟨w.heap.size + 5, 0, none⟩), .pointer (some ⟨w.heap.size + 6, 0, none⟩)], (.agg #[.int .i64 (x.1), .int .i64 (x.2)]), undef, undef, undef, undef, undef, undef, undef, undef, undef, undef, undef, undef, undef, undef, undef, undef, undef, undef, undef, undef, undef, undef, undef, undef, undef, undef, undef, undef, undef, undef, undef, undef, undef, undef, undef], defers := [] })
    (fun x a' _ X Y row hs hg hr => by obtain ⟨Bx, k1, k2, k3⟩ := hs; exact ⟨Bx, k1, (hg.block Bx (Array.getElem?_eq_some_iff.1 k2).1 (fun e => by obtain ⟨_, o, ho, hc⟩ := hr Bx e.symm; rw [k2] at ho; cases ho; cases hc)).trans k2, k3⟩)
    ?assign ?body ?done ?stop
  case assign =>
    rintro l pre x W K ⟨⟨⟨s2, s3⟩, ⟨s1, s0⟩⟩, hBW, hsW⟩ hKK
    change Code.wpIn _ _ _ _ _ _ (lay W [])
    gi_wp2
    have hlt : ∀ {k : Nat} {o : Obj}, W.heap[k]? = some o → (lay W [Sum.inl (Obj.cells #[Value.int IntKind.i64 x.1, Value.int IntKind.i64 x.2] 23 (0, 0))]).heap[k]? = some o := fun h => (Below.heap_alloc W _ _ (Array.getElem?_eq_some_iff.1 h).1).trans h
    exact hKK _ _ ((KeepsOthers.alloc W _).from _) (Kept.of_below (lay_extends W _) (fun k hk => by have := hps k hk; omega)) ⟨⟨⟨hlt s2, hlt s3⟩, ⟨hlt s1, hlt s0⟩⟩, hBW.alloc hBW.size _, by rw [lay_size]; unfold posn; omega⟩ ⟨W.heap.size, by omega, lay_get W _ 0 _ rfl, rfl⟩
  case body =>
    rintro l pre x a' W hl hr ⟨⟨⟨s2, s3⟩, ⟨s1, s0⟩⟩, hBW, hsW⟩ ⟨Bx, hBx, sx, rfl⟩ hlt
    have c20 := cell_blk (i := 0) s2
    have c21 := cell_blk (i := 1) s2
    have f20 := froz_blk (i := 0) s2
    have f21 := froz_blk (i := 1) s2
    have c30 := cell_blk (i := 0) s3
    have f30 := froz_blk (i := 0) s3
    have cx0 := cell_blk (i := 0) sx
    have cx1 := cell_blk (i := 1) sx
    simp at c20 c21 c30 cx0 cx1
    cases pre with
    | nil =>
      gi_wp2
      refine ⟨kf_set (kf_set (kf_set (kf_set (kf_set (KeepsFrom.refl _ W) _ _ _) _ _ _) _ _ _) _ _ _) _ _ _, ((((Kept.refl p W).set (fun k hk => (hpn k hk).1)).set (fun k hk => (hpn k hk).1)).set (fun k hk => (hpn k hk).2) |>.set (fun k hk => (hpn k hk).1)).set (fun k hk => (hpn k hk).1), ⟨⟨?_, ?_⟩, ?_, ?_⟩, ?_, ?_⟩
      · refine (set_blk (set_blk (far_blk (set_blk (set_blk s2)) (by omega)))).trans ?_
        simp [mn_eq, mx_eq, hullL]
      · exact (far_blk (far_blk (set_blk (far_blk (far_blk s3 (by omega)) (by omega))) (by omega)) (by omega)).trans rfl
      · exact far_blk (far_blk (far_blk (far_blk (far_blk s1 (by omega)) (by omega)) (by omega)) (by omega)) (by omega)
      · exact far_blk (far_blk (far_blk (far_blk (far_blk s0 (by omega)) (by omega)) (by omega)) (by omega)) (by omega)
      · exact ((((hBW.setCell (by simp) _).setCell (by simp) _).setCell (by simp) _).setCell (by simp) _).setCell (by simp) _
      · simp; omega
    | cons y pre =>
      gi_wp2
      refine ⟨kf_set (kf_set (KeepsFrom.refl _ W) _ _ _) _ _ _, ((Kept.refl p W).set (fun k hk => (hpn k hk).1)).set (fun k hk => (hpn k hk).1), ⟨⟨?_, ?_⟩, ?_, ?_⟩, ?_, ?_⟩
      · refine (set_blk (set_blk s2)).trans ?_
        rw [hullL_snoc _ _ (List.cons_ne_nil _ _)]
        simp [mn_eq, mx_eq, hull2]
      · exact (far_blk (far_blk s3 (by omega)) (by omega)).trans rfl
      · exact far_blk (far_blk s1 (by omega)) (by omega)
      · exact far_blk (far_blk s0 (by omega)) (by omega)
      · exact (hBW.setCell (by simp) _).setCell (by simp) _
      · simp; omega
  case done =>
    rintro D ys W hD rfl ⟨⟨⟨s2, s3⟩, ⟨s1, s0⟩⟩, hBW, hsW⟩ hK
    have c20 := cell_blk (i := 0) s2
    have c21 := cell_blk (i := 1) s2
    have c05 := cell_blk (i := 5) s0
    have f10 := froz_blk (i := 0) s1
    have f11 := froz_blk (i := 1) s1
    have c10 := cell_blk (i := 0) s1
    have c11 := cell_blk (i := 1) s1
    simp at c20 c21 c05 c10 c11
    have m0 : 0 ≤ cdiv (100 * t.r) 8 ∧ cdiv (100 * t.r) 8 ≤ 1250001 := by unfold cdiv; omega
    obtain ⟨bd0, bd1, bd2⟩ := pcs_bnd hA lo hi
    by_cases hc : lo = hi ∧ lo % 3600000 = 0
    · obtain ⟨hc1, hc2⟩ := hc
      subst hc1
      have g2 : (lo % 3600000 == 0) = true := beq_iff_eq.2 hc2
      gi_wp2
      have u1 := set_blk (i := 1) (v := .int .i64 (hullL (pcs A lo lo)).2) (set_blk (i := 0) (v := .int .i64 (hullL (pcs A lo lo)).1) s1)
      have hK' := far_blk (b := w.heap.size + 1) (i := 1) (v := .int .i64 (hullL (pcs A lo lo)).2) (far_blk (b := w.heap.size + 1) (i := 0) (v := .int .i64 (hullL (pcs A lo lo)).1) hK (by omega)) (by omega)
      refine ⟨by simp, .inl ⟨_, _, rfl, run_takeDeferred hK', ?_⟩⟩
      have u2 := (World.putObj_heap_other (o := .deferred none) (by omega : w.heap.size + 1 ≠ D)).trans u1
      have d0 := cell_blk (i := 0) u2
      have d1 := cell_blk (i := 1) u2
      simp at d0 d1
      refine ⟨(.agg #[.int .i64 ((hullL (pcs A lo lo)).1), .int .i64 ((hullL (pcs A lo lo)).2)]), by simp [results, Try.results55, go_sem, d0, d1], ?_, bw_of (((hBW.setCell (by simp) _).setCell (by simp) _).trans (belowK_b (w := w) (Nat.le_refl _) _ D _ _ (by omega) hK' rfl rfl))⟩
      rw [ovr, if_pos ⟨rfl, hc2⟩]
    · by_cases hc1 : lo = hi
      · subst hc1
        have g2 : (lo % 3600000 == 0) = false := beq_eq_false_iff_ne.2 fun e => hc ⟨rfl, e⟩
        gi_wp2_with fail
        refine ⟨trivial, (callsIn_wide.2 (inc_ceil _ _ W (by decide) (by omega) (by omega))).mono ?_⟩
        rintro e w' ⟨rfl, hw⟩
        subst hw
        gi_wp2
        have u1 := set_blk (i := 1) (v := .int .i64 ((hullL (pcs A lo lo)).2 + cdiv (100 * t.r) 8)) (set_blk (i := 0) (v := .int .i64 ((hullL (pcs A lo lo)).1 - cdiv (100 * t.r) 8)) s1)
        have hK' := far_blk (b := w.heap.size + 1) (i := 1) (v := .int .i64 ((hullL (pcs A lo lo)).2 + cdiv (100 * t.r) 8)) (far_blk (b := w.heap.size + 1) (i := 0) (v := .int .i64 ((hullL (pcs A lo lo)).1 - cdiv (100 * t.r) 8)) hK (by omega)) (by omega)
        refine ⟨by simp, .inl ⟨_, _, rfl, run_takeDeferred hK', ?_⟩⟩
        have u2 := (World.putObj_heap_other (o := .deferred none) (by omega : w.heap.size + 1 ≠ D)).trans u1
        have d0 := cell_blk (i := 0) u2
        have d1 := cell_blk (i := 1) u2
        simp at d0 d1
        refine ⟨(.agg #[.int .i64 ((hullL (pcs A lo lo)).1 - cdiv (100 * t.r) 8), .int .i64 ((hullL (pcs A lo lo)).2 + cdiv (100 * t.r) 8)]), by simp [results, Try.results55, go_sem, d0, d1], ?_, bw_of (((hBW.setCell (by simp) _).setCell (by simp) _).trans (belowK_b (w := w) (Nat.le_refl _) _ D _ _ (by omega) hK' rfl rfl))⟩
        rw [ovr, if_neg (fun e => by rw [e.2] at g2; cases g2)]
      · have g1 : (lo == hi) = false := beq_eq_false_iff_ne.2 hc1
        gi_wp2_with fail
        refine ⟨trivial, (callsIn_wide.2 (inc_ceil _ _ W (by decide) (by omega) (by omega))).mono ?_⟩
        rintro e w' ⟨rfl, hw⟩
        subst hw
        gi_wp2
        have u1 := set_blk (i := 1) (v := .int .i64 ((hullL (pcs A lo hi)).2 + cdiv (100 * t.r) 8)) (set_blk (i := 0) (v := .int .i64 ((hullL (pcs A lo hi)).1 - cdiv (100 * t.r) 8)) s1)
        have hK' := far_blk (b := w.heap.size + 1) (i := 1) (v := .int .i64 ((hullL (pcs A lo hi)).2 + cdiv (100 * t.r) 8)) (far_blk (b := w.heap.size + 1) (i := 0) (v := .int .i64 ((hullL (pcs A lo hi)).1 - cdiv (100 * t.r) 8)) hK (by omega)) (by omega)
        refine ⟨by simp, .inl ⟨_, _, rfl, run_takeDeferred hK', ?_⟩⟩
        have u2 := (World.putObj_heap_other (o := .deferred none) (by omega : w.heap.size + 1 ≠ D)).trans u1
        have d0 := cell_blk (i := 0) u2
        have d1 := cell_blk (i := 1) u2
        simp at d0 d1
        refine ⟨(.agg #[.int .i64 ((hullL (pcs A lo hi)).1 - cdiv (100 * t.r) 8), .int .i64 ((hullL (pcs A lo hi)).2 + cdiv (100 * t.r) 8)]), by simp [results, Try.results55, go_sem, d0, d1], ?_, bw_of (((hBW.setCell (by simp) _).setCell (by simp) _).trans (belowK_b (w := w) (Nat.le_refl _) _ D _ _ (by omega) hK' rfl rfl))⟩
        rw [ovr, if_neg hc]
  case stop =>
    rintro D c pre W _ _ h _
    exact h.elim
end Go.Proofs.Ytknammeehedbdaa
