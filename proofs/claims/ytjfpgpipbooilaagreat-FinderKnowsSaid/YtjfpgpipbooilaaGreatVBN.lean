/- Contracts and plain laws, several texts in one: Rf3; Rf4; Rf6 -/
import Derived.RangeFuncNested
import Derived.RangeFuncBound
import Derived.RangeFuncCalls
import Derived.RangeFuncLeaves
import Derived.Shelf.Abstract
import Derived.Shelf.RegionOpen
import Derived.WalkKit
import Derived.OwnWalkIn
import Derived.TacticsInMore
import Derived.LoopNIn
import Derived.LoopIn
import Derived.Lib.Hide
import Derived.Test.YtjfpgpipbooilaaGreatProg
import Derived.WalkSpells
import Derived.WalkLawsBesides
import Derived.BigQuiet
import Derived.Deep.RegionWith
import Derived.Test.YtjfpgpipbooilaaGreatVAA
import Derived.Test.YtjfpgpipbooilaaGreatVAB
import Derived.Test.YtjfpgpipbooilaaGreatVAC
import Derived.Test.YtjfpgpipbooilaaGreatVAX
import Derived.Test.YtjfpgpipbooilaaGreatVAY
import Derived.Test.YtjfpgpipbooilaaGreatVBA
import Derived.Test.YtjfpgpipbooilaaGreatVBL
import Derived.Test.YtjfpgpipbooilaaGreatVBM
/- increments.over: the iterator made, the loop over it. -/
namespace Go.Proofs.YtjfpgpipbooilaaGreat
set_option maxHeartbeats 4000000
open Go.RowKit Go.Shelf
attribute [local go_sem] Oper.semAt_some

@[local go_sem] theorem run_store_func {P : Program} {w : World} {a : Addr} {m : Mode} (f : Fn) (x y : Array Value) : (store a (.func f x y) m).run P w = stored P w a (.func f x y) m := run_store P w a _ m rfl
theorem inc_pieces0 (lo hi : Int) (g : Nat) (q : Value) (w : World) :
    Calls Tryz.prog 218 #[.int .i64 lo, .int .i64 hi, .func (.func g) #[] #[q]] (lay w []) fun e w' =>
      e = .returned (.func (.func 228) #[] #[.pointer (some ⟨posn w [1, 1, 1], 0, none⟩), .pointer (some ⟨posn w [], 0, none⟩), .pointer (some ⟨posn w [1], 0, none⟩), .pointer (some ⟨posn w [1, 1], 0, none⟩)]) ∧
      w' = lay w [.inl (.cells #[.func (.func 226) #[] #[.pointer (some ⟨posn w [1, 1], 0, none⟩)]] 57 (0, 0)), .inl (.cells #[.func (.func g) #[] #[q]] 57 (0, 0)), .inl (.cells #[.int .i64 hi] 3 (0, 0)), .inl (.cells #[.int .i64 lo] 3 (0, 0))] := by
  go_enter Tryz.func218, Tryz.ntmps218
  go_wp2
  go_ret
  exact ⟨rfl, rfl⟩
theorem posn_lay (w : World) (L : List (Obj ⊕ Ext)) (p : List Nat) : posn (lay w L) p = posn w (p ++ shp L) := by
  unfold posn; rw [lay_size]; unfold posn; simp; omega
theorem inc_pieces (lo hi : Int) (g : Nat) (q : Value) (w : World) (L : List (Obj ⊕ Ext)) :
    Calls Tryz.prog 218 #[.int .i64 lo, .int .i64 hi, .func (.func g) #[] #[q]] (lay w L) fun e w' =>
      e = .returned (.func (.func 228) #[] #[.pointer (some ⟨posn w (1 :: 1 :: 1 :: shp L), 0, none⟩), .pointer (some ⟨posn w (shp L), 0, none⟩), .pointer (some ⟨posn w (1 :: shp L), 0, none⟩), .pointer (some ⟨posn w (1 :: 1 :: shp L), 0, none⟩)]) ∧
      w' = lay w (.inl (.cells #[.func (.func 226) #[] #[.pointer (some ⟨posn w (1 :: 1 :: shp L), 0, none⟩)]] 57 (0, 0)) :: .inl (.cells #[.func (.func g) #[] #[q]] 57 (0, 0)) :: .inl (.cells #[.int .i64 hi] 3 (0, 0)) :: .inl (.cells #[.int .i64 lo] 3 (0, 0)) :: L) := by
  have h := inc_pieces0 lo hi g q (lay w L)
  simp only [posn_lay, ← lay_append, List.nil_append, List.cons_append] at h
  exact h

def hull2 (a b : Int × Int) : Int × Int := (min a.1 b.1, max a.2 b.2)
def hullL : List (Int × Int) → Int × Int
  | [] => (0, 0)
  | x :: l => l.foldl hull2 x
theorem hullL_snoc (l : List (Int × Int)) (x : Int × Int) (h : l ≠ []) : hullL (l ++ [x]) = hull2 (hullL l) x := by
  cases l with
  | nil => exact absurd rfl h
  | cons y l => simp [hullL, List.foldl_append]
theorem Kept.row {p : Nat → Prop} {W0 : World} (hp : ∀ k, p k → k < W0.heap.size) (W : World) (l : Nat) (o o' : Obj) (hl : W0.heap.size ≤ l) (_ : W.heap[l]? = some o) (_ : o.isCells = false) (_ : o.isWalk = false) : Kept p W (W.putObj l o') :=
  ⟨(grownBy_putObj' W l o').size, fun k hk => World.putObj_heap_other (by have := hp k hk; omega)⟩
theorem ownFrom_blk {β : Type} {B k : Nat} (hk : k < B) (f : β → Obj) : OwnFrom B (fun s (W : World) => W.heap[k]? = some (f s)) :=
  fun s X Y row hs hg hr => (hg.block k (Array.getElem?_eq_some_iff.1 hs).1 (fun e => by have := (hr k e.symm).1; omega)).trans hs
theorem cell_blk {W : World} {k i : Nat} {c : Array Value} {t : TypeId} {f : Nat × Nat} (h : W.heap[k]? = some (.cells c t f)) : W.cell? ⟨k, i, none⟩ = c[i]? := by
  unfold World.cell?; rw [h]; rfl
theorem froz_blk {W : World} {k i : Nat} {c : Array Value} {t : TypeId} (h : W.heap[k]? = some (.cells c t (0, 0))) : W.frozen? ⟨k, i, none⟩ = false := by
  unfold World.frozen?; rw [h]; rfl

theorem set_blk {W : World} {k i : Nat} {v : Value} {c : Array Value} {t : TypeId} {f : Nat × Nat} (h : W.heap[k]? = some (.cells c t f)) : (W.setCell ⟨k, i, none⟩ v).heap[k]? = some (.cells (c.setIfInBounds i v) t f) := by
  have hlt := (Array.getElem?_eq_some_iff.1 h).1
  have h' : W.heap[k] = .cells c t f := by simpa [Array.getElem?_eq_getElem hlt] using h
  show (W.heap.modify k _)[k]? = _
  rw [Array.getElem?_eq_getElem (by simpa using hlt), Array.getElem_modify_self, h']
  simp
theorem far_blk {W : World} {k b i : Nat} {v : Value} {o : Option Obj} (h : W.heap[k]? = o) (hk : k ≠ b) : (W.setCell ⟨b, i, none⟩ v).heap[k]? = o := (Below.heap_setCell W _ _ k hk).trans h
theorem Kept.set {p : Nat → Prop} {A B : World} (h : Kept p A B) {b i : Nat} {v : Value} (hb : ∀ k, p k → k ≠ b) : Kept p A (B.setCell ⟨b, i, none⟩ v) :=
  ⟨by simp only [World.setCell, Array.size_modify]; exact h.size, fun k hk => (Below.heap_setCell B _ _ k (hb k hk)).trans (h.same k hk)⟩
theorem kf_set {n : Nat} {A B : World} (h : KeepsFrom n A B) (b i : Nat) (v : Value) : KeepsFrom n A (B.setCell ⟨b, i, none⟩ v) := h.trans ((KeepsOthers.setCell _ _ _).from _)
def ovr (A : Int → Int × Int) (lo hi r : Int) : Int × Int :=
  if lo = hi ∧ lo % 3600000 = 0 then hullL (pcs A lo hi) else ((hullL (pcs A lo hi)).1 - cdiv (100 * r) 8, (hullL (pcs A lo hi)).2 + cdiv (100 * r) 8)
def Bnd (x : Int × Int) : Prop := -1099511627776 ≤ x.1 ∧ x.1 ≤ x.2 ∧ x.2 ≤ 1099511627776
theorem Bnd.hull {x y : Int × Int} (h : Bnd x) (k : Bnd y) : Bnd (hull2 x y) := by unfold Bnd hull2 at *; dsimp only at *; omega
theorem Bnd.fold (l : List (Int × Int)) : ∀ x, Bnd x → (∀ y ∈ l, Bnd y) → Bnd (l.foldl hull2 x) := by
  induction l with
  | nil => exact fun x h _ => h
  | cons y l ih => exact fun x h k => ih _ (h.hull (k y (List.mem_cons_self ..))) (fun z hz => k z (List.mem_cons_of_mem _ hz))
theorem Bnd.lst {l : List (Int × Int)} (h : ∀ y ∈ l, Bnd y) : Bnd (hullL l) := by
  cases l with
  | nil => exact ⟨by decide, by decide, by decide⟩
  | cons y l => exact Bnd.fold l y (h y (List.mem_cons_self ..)) (fun z hz => h z (List.mem_cons_of_mem _ hz))
theorem lin_ge {x0 x1 n B : Int} (h0 : B ≤ x0) (h1 : B ≤ x1) (n0 : 0 ≤ n) (n1 : n ≤ 3600000) : B ≤ (x0 * (3600000 - n) + x1 * n) / 3600000 := by
  have a := Int.mul_le_mul_of_nonneg_right h0 (show 0 ≤ 3600000 - n by omega)
  have b := Int.mul_le_mul_of_nonneg_right h1 n0
  rw [Int.mul_sub] at a
  omega
theorem lin_le {x0 x1 n B : Int} (h0 : x0 ≤ B) (h1 : x1 ≤ B) (n0 : 0 ≤ n) (n1 : n ≤ 3600000) : cdiv (x0 * (3600000 - n) + x1 * n) 3600000 ≤ B := by
  have a := Int.mul_le_mul_of_nonneg_right h0 (show 0 ≤ 3600000 - n by omega)
  have b := Int.mul_le_mul_of_nonneg_right h1 n0
  rw [Int.mul_sub B] at a
  unfold cdiv
  omega
theorem lin_mono {x0 x1 y0 y1 n : Int} (h0 : x0 ≤ y0) (h1 : x1 ≤ y1) (n0 : 0 ≤ n) (n1 : n ≤ 3600000) : (x0 * (3600000 - n) + x1 * n) / 3600000 ≤ cdiv (y0 * (3600000 - n) + y1 * n) 3600000 := by
  have a := Int.mul_le_mul_of_nonneg_right h0 (show 0 ≤ 3600000 - n by omega)
  have b := Int.mul_le_mul_of_nonneg_right h1 n0
  unfold cdiv
  omega
theorem ins_bnd {A : Int → Int × Int} (hA : ArcsOk A) (ms : Int) : Bnd (insL A ms, insH A ms) := by
  unfold insL insH Bnd
  split
  · exact ⟨hA.lo _, hA.le _, hA.hi _⟩
  · exact ⟨lin_ge (hA.lo _) (hA.lo _) (by omega) (by omega), lin_mono (hA.le _) (hA.le _) (by omega) (by omega), lin_le (hA.hi _) (hA.hi _) (by omega) (by omega)⟩
theorem pcs_bnd {A : Int → Int × Int} (hA : ArcsOk A) (lo hi : Int) : Bnd (hullL (pcs A lo hi)) := by
  refine Bnd.lst fun y hy => ?_
  unfold pcs hrs at hy
  rcases List.mem_append.1 hy with h | h
  · simp only [List.mem_cons, List.not_mem_nil, or_false] at h
    rcases h with rfl | rfl <;> exact ins_bnd hA _
  · obtain ⟨i, _, rfl⟩ := List.mem_map.1 h
    exact ⟨hA.lo _, hA.le _, hA.hi _⟩

set_option maxRecDepth 100000 in
theorem inc_over (A : Int → Int × Int) (g : Nat) (q : Value) (v : Value) (t : TrkV) (lo hi : Int) (w : World) (hA : ArcsOk A) (hT : Trk w v t)
    (l0 : 0 ≤ lo) (l1 : lo ≤ 86400000) (h0 : 0 ≤ hi) (h1 : hi ≤ 86400000) (r0 : 0 ≤ t.r) (r1 : t.r ≤ 100000)
    (eg : ∀ args w, (callFunc g args).run Tryz.prog w = .ok (.enter g args) w)
    (hat : ∀ W (h : Int), Kept (· < w.heap.size) w W → 0 ≤ h → h ≤ 24 → Calls Tryz.prog g #[.int .i64 h, q] W fun e w' => e = .returned (.agg #[.int .i64 ((A h).1), .int .i64 ((A h).2)]) ∧ ∃ d, w' = bw W d) :
    Calls Tryz.prog 202 #[v, .int .i64 lo, .int .i64 hi, .func (.func g) #[] #[q]] w fun e w' => e = .returned (.agg #[.int .i64 ((ovr A lo hi t.r).1), .int .i64 ((ovr A lo hi t.r).2)]) ∧ ∃ d, w' = bw w d := by
  obtain ⟨vg, vd, rfl, _⟩ := hT
  have HAT := Lib.hid hat
  clear hat
  refine (callsIn_wide (n := 20)).1 ?_
  refine callsIn_of_wp_marks Tryz.func202 rfl trivial ?_ rfl
  simp only [Tryz.ntmps202, List.size_toArray, List.length_cons, List.length_nil, Nat.reduceAdd, Nat.reduceSub, Array.replicate_succ, Array.replicate_zero, List.push_toArray, List.append_toArray, List.nil_append, List.cons_append]
  change Code.wpIn _ _ _ _ _ _ (lay w [])
  gi_wp2_with fail
  refine ⟨trivial, (callsIn_wide.2 (inc_pieces lo hi g q w _)).mono ?_⟩
  rintro e w' ⟨rfl, rfl⟩
  gi_wp2_with fail
  have q0 : posn w [] = w.heap.size := rfl
  have q1 : posn w [1] = w.heap.size + 1 := rfl
  have q2 : posn w [1, 1] = w.heap.size + 2 := rfl
  have q3 : posn w [1, 1, 1] = w.heap.size + 3 := rfl
  have q4 : posn w [1, 1, 1, 1] = w.heap.size + 4 := rfl
  have q5 : posn w [1, 1, 1, 1, 1] = w.heap.size + 5 := rfl
  have q6 : posn w [1, 1, 1, 1, 1, 1] = w.heap.size + 6 := rfl
  have q7 : posn w [1, 1, 1, 1, 1, 1, 1] = w.heap.size + 7 := rfl
  simp only [q0, q1, q2, q3, q4, q5, q6, q7]
  clear q0 q1 q2 q3 q4 q5 q6 q7
  obtain ⟨p, hp⟩ : ∃ p : Nat → Prop, p = fun k => k < w.heap.size ∨ (w.heap.size + 4 ≤ k ∧ k < w.heap.size + 8) := ⟨_, rfl⟩
  have hps : ∀ k, p k → k < w.heap.size + 8 := by intro k hk; rw [hp] at hk; rcases hk with h | h <;> omega
  have hpm : ∀ k, w.heap.size + 4 ≤ k → k < w.heap.size + 8 → p k := by intro k h1 h2; rw [hp]; exact .inr ⟨h1, h2⟩
  have hpl : ∀ k, k < w.heap.size → p k := by intro k h; rw [hp]; exact .inl h
  have hpn : ∀ k, p k → k ≠ w.heap.size + 2 ∧ k ≠ w.heap.size + 3 := by intro k hk; rw [hp] at hk; rcases hk with h | h <;> omega
  clear hp
  have r7 : (lay w [.inl (.cells #[.func (.func 226) #[] #[.pointer (some ⟨w.heap.size + 6, 0, none⟩)]] 57 (0, 0)), .inl (.cells #[.func (.func g) #[] #[q]] 57 (0, 0)), .inl (.cells #[.int .i64 hi] 3 (0, 0)), .inl (.cells #[.int .i64 lo] 3 (0, 0)), .inl (.cells #[.bool true] 4 (0, 0)), .inl (.cells #[.int .i64 0, .int .i64 0] 26 (0, 0)), .inl (.cells #[.int .i64 0, .int .i64 0] 26 (0, 0)), .inl (.cells #[.string t.s, vg, vd, .int .i64 t.p, .int .i64 t.q, .int .i64 t.r] 122 (0, 0))]).heap[w.heap.size + 7]? = some (.cells #[.func (.func 226) #[] #[.pointer (some ⟨w.heap.size + 6, 0, none⟩)]] 57 (0, 0)) := lay_get w _ 0 _ rfl
  have r6 : (lay w [.inl (.cells #[.func (.func 226) #[] #[.pointer (some ⟨w.heap.size + 6, 0, none⟩)]] 57 (0, 0)), .inl (.cells #[.func (.func g) #[] #[q]] 57 (0, 0)), .inl (.cells #[.int .i64 hi] 3 (0, 0)), .inl (.cells #[.int .i64 lo] 3 (0, 0)), .inl (.cells #[.bool true] 4 (0, 0)), .inl (.cells #[.int .i64 0, .int .i64 0] 26 (0, 0)), .inl (.cells #[.int .i64 0, .int .i64 0] 26 (0, 0)), .inl (.cells #[.string t.s, vg, vd, .int .i64 t.p, .int .i64 t.q, .int .i64 t.r] 122 (0, 0))]).heap[w.heap.size + 6]? = some (.cells #[.func (.func g) #[] #[q]] 57 (0, 0)) := lay_get w _ 1 _ rfl
  have r5 : (lay w [.inl (.cells #[.func (.func 226) #[] #[.pointer (some ⟨w.heap.size + 6, 0, none⟩)]] 57 (0, 0)), .inl (.cells #[.func (.func g) #[] #[q]] 57 (0, 0)), .inl (.cells #[.int .i64 hi] 3 (0, 0)), .inl (.cells #[.int .i64 lo] 3 (0, 0)), .inl (.cells #[.bool true] 4 (0, 0)), .inl (.cells #[.int .i64 0, .int .i64 0] 26 (0, 0)), .inl (.cells #[.int .i64 0, .int .i64 0] 26 (0, 0)), .inl (.cells #[.string t.s, vg, vd, .int .i64 t.p, .int .i64 t.q, .int .i64 t.r] 122 (0, 0))]).heap[w.heap.size + 5]? = some (.cells #[.int .i64 hi] 3 (0, 0)) := lay_get w _ 2 _ rfl
  have r4 : (lay w [.inl (.cells #[.func (.func 226) #[] #[.pointer (some ⟨w.heap.size + 6, 0, none⟩)]] 57 (0, 0)), .inl (.cells #[.func (.func g) #[] #[q]] 57 (0, 0)), .inl (.cells #[.int .i64 hi] 3 (0, 0)), .inl (.cells #[.int .i64 lo] 3 (0, 0)), .inl (.cells #[.bool true] 4 (0, 0)), .inl (.cells #[.int .i64 0, .int .i64 0] 26 (0, 0)), .inl (.cells #[.int .i64 0, .int .i64 0] 26 (0, 0)), .inl (.cells #[.string t.s, vg, vd, .int .i64 t.p, .int .i64 t.q, .int .i64 t.r] 122 (0, 0))]).heap[w.heap.size + 4]? = some (.cells #[.int .i64 lo] 3 (0, 0)) := lay_get w _ 3 _ rfl
  have r3 : (lay w [.inl (.cells #[.func (.func 226) #[] #[.pointer (some ⟨w.heap.size + 6, 0, none⟩)]] 57 (0, 0)), .inl (.cells #[.func (.func g) #[] #[q]] 57 (0, 0)), .inl (.cells #[.int .i64 hi] 3 (0, 0)), .inl (.cells #[.int .i64 lo] 3 (0, 0)), .inl (.cells #[.bool true] 4 (0, 0)), .inl (.cells #[.int .i64 0, .int .i64 0] 26 (0, 0)), .inl (.cells #[.int .i64 0, .int .i64 0] 26 (0, 0)), .inl (.cells #[.string t.s, vg, vd, .int .i64 t.p, .int .i64 t.q, .int .i64 t.r] 122 (0, 0))]).heap[w.heap.size + 3]? = some (.cells #[.bool true] 4 (0, 0)) := lay_get w _ 4 _ rfl
  have r2 : (lay w [.inl (.cells #[.func (.func 226) #[] #[.pointer (some ⟨w.heap.size + 6, 0, none⟩)]] 57 (0, 0)), .inl (.cells #[.func (.func g) #[] #[q]] 57 (0, 0)), .inl (.cells #[.int .i64 hi] 3 (0, 0)), .inl (.cells #[.int .i64 lo] 3 (0, 0)), .inl (.cells #[.bool true] 4 (0, 0)), .inl (.cells #[.int .i64 0, .int .i64 0] 26 (0, 0)), .inl (.cells #[.int .i64 0, .int .i64 0] 26 (0, 0)), .inl (.cells #[.string t.s, vg, vd, .int .i64 t.p, .int .i64 t.q, .int .i64 t.r] 122 (0, 0))]).heap[w.heap.size + 2]? = some (.cells #[.int .i64 0, .int .i64 0] 26 (0, 0)) := lay_get w _ 5 _ rfl
  have v1 : (lay w [.inl (.cells #[.func (.func 226) #[] #[.pointer (some ⟨w.heap.size + 6, 0, none⟩)]] 57 (0, 0)), .inl (.cells #[.func (.func g) #[] #[q]] 57 (0, 0)), .inl (.cells #[.int .i64 hi] 3 (0, 0)), .inl (.cells #[.int .i64 lo] 3 (0, 0)), .inl (.cells #[.bool true] 4 (0, 0)), .inl (.cells #[.int .i64 0, .int .i64 0] 26 (0, 0)), .inl (.cells #[.int .i64 0, .int .i64 0] 26 (0, 0)), .inl (.cells #[.string t.s, vg, vd, .int .i64 t.p, .int .i64 t.q, .int .i64 t.r] 122 (0, 0))]).heap[w.heap.size + 1]? = some (.cells #[.int .i64 0, .int .i64 0] 26 (0, 0)) := lay_get w _ 6 _ rfl
  have v0 : (lay w [.inl (.cells #[.func (.func 226) #[] #[.pointer (some ⟨w.heap.size + 6, 0, none⟩)]] 57 (0, 0)), .inl (.cells #[.func (.func g) #[] #[q]] 57 (0, 0)), .inl (.cells #[.int .i64 hi] 3 (0, 0)), .inl (.cells #[.int .i64 lo] 3 (0, 0)), .inl (.cells #[.bool true] 4 (0, 0)), .inl (.cells #[.int .i64 0, .int .i64 0] 26 (0, 0)), .inl (.cells #[.int .i64 0, .int .i64 0] 26 (0, 0)), .inl (.cells #[.string t.s, vg, vd, .int .i64 t.p, .int .i64 t.q, .int .i64 t.r] 122 (0, 0))]).heap[w.heap.size]? = some (.cells #[.string t.s, vg, vd, .int .i64 t.p, .int .i64 t.q, .int .i64 t.r] 122 (0, 0)) := lay_get w _ 7 _ rfl
  have hB := lay_extends w [.inl (.cells #[.func (.func 226) #[] #[.pointer (some ⟨w.heap.size + 6, 0, none⟩)]] 57 (0, 0)), .inl (.cells #[.func (.func g) #[] #[q]] 57 (0, 0)), .inl (.cells #[.int .i64 hi] 3 (0, 0)), .inl (.cells #[.int .i64 lo] 3 (0, 0)), .inl (.cells #[.bool true] 4 (0, 0)), .inl (.cells #[.int .i64 0, .int .i64 0] 26 (0, 0)), .inl (.cells #[.int .i64 0, .int .i64 0] 26 (0, 0)), .inl (.cells #[.string t.s, vg, vd, .int .i64 t.p, .int .i64 t.q, .int .i64 t.r] 122 (0, 0))]
  have hsz : (lay w [.inl (.cells #[.func (.func 226) #[] #[.pointer (some ⟨w.heap.size + 6, 0, none⟩)]] 57 (0, 0)), .inl (.cells #[.func (.func g) #[] #[q]] 57 (0, 0)), .inl (.cells #[.int .i64 hi] 3 (0, 0)), .inl (.cells #[.int .i64 lo] 3 (0, 0)), .inl (.cells #[.bool true] 4 (0, 0)), .inl (.cells #[.int .i64 0, .int .i64 0] 26 (0, 0)), .inl (.cells #[.int .i64 0, .int .i64 0] 26 (0, 0)), .inl (.cells #[.string t.s, vg, vd, .int .i64 t.p, .int .i64 t.q, .int .i64 t.r] 122 (0, 0))]).heap.size = w.heap.size + 8 := by rw [lay_size]; rfl
  generalize lay w [.inl (.cells #[.func (.func 226) #[] #[.pointer (some ⟨w.heap.size + 6, 0, none⟩)]] 57 (0, 0)), .inl (.cells #[.func (.func g) #[] #[q]] 57 (0, 0)), .inl (.cells #[.int .i64 hi] 3 (0, 0)), .inl (.cells #[.int .i64 lo] 3 (0, 0)), .inl (.cells #[.bool true] 4 (0, 0)), .inl (.cells #[.int .i64 0, .int .i64 0] 26 (0, 0)), .inl (.cells #[.int .i64 0, .int .i64 0] 26 (0, 0)), .inl (.cells #[.string t.s, vg, vd, .int .i64 t.p, .int .i64 t.q, .int .i64 t.r] 122 (0, 0))] = W0 at *
  have hK : ∀ W, Kept p W0 W → Kept (· < w.heap.size) w W := fun W k => ⟨Nat.le_trans hB.size k.size, fun i hi => (k.same i (hpl i hi)).trans (hB.block i hi)⟩
  refine wpIn_rangeFunc_ownH (F := Fence.wide) (n := 20) rfl (by decide) (gf := 228) (lb := #[.pointer (some ⟨w.heap.size + 7, 0, none⟩), .pointer (some ⟨w.heap.size + 4, 0, none⟩), .pointer (some ⟨w.heap.size + 5, 0, none⟩), .pointer (some ⟨w.heap.size + 6, 0, none⟩)]) rfl trivial (enters_of Tryz.func228 (by kernel_rfl) rfl)
    (pieces_stops 19 (by decide) A g q (w.heap.size + 7) (w.heap.size + 4) (w.heap.size + 5) (w.heap.size + 6) lo hi p W0 hA l0 l1 h0 h1 (fun k hk => by have := hps k hk; omega) (hpm _ (by omega) (by omega)) (hpm _ (by omega) (by omega)) (hpm _ (by omega) (by omega)) (hpm _ (by omega) (by omega))
      (cell_blk r7) (cell_blk r4) (cell_blk r5) (cell_blk r6) eg (fun W h k => HAT.out W h (hK W k)))
    Kept.trans (Kept.row (fun k hk => by have := hps k hk; omega)) (Below.refl _ _) (fun _ => rfl)
    (fun pre W => (((W.heap[w.heap.size + 2]? = some (.cells #[.int .i64 (hullL pre).1, .int .i64 (hullL pre).2] 26 (0, 0))) ∧ (W.heap[w.heap.size + 3]? = some (.cells #[.bool pre.isEmpty] 4 (0, 0)))) ∧
      ((W.heap[w.heap.size + 1]? = some (.cells #[.int .i64 0, .int .i64 0] 26 (0, 0))) ∧ (W.heap[w.heap.size]? = some (.cells #[.string t.s, vg, vd, .int .i64 t.p, .int .i64 t.q, .int .i64 t.r] 122 (0, 0))))) ∧ (Below w.heap.size w W ∧ w.heap.size + 8 ≤ W.heap.size))
    (fun _ _ _ => False)
    (OwnFrom.and (OwnFrom.and (OwnFrom.and (ownFrom_blk (by omega) (fun pre : List (Int × Int) => Obj.cells #[.int .i64 (hullL pre).1, .int .i64 (hullL pre).2] 26 (0, 0))) (ownFrom_blk (by omega) (fun pre : List (Int × Int) => Obj.cells #[.bool pre.isEmpty] 4 (0, 0)))) (OwnFrom.and (ownFrom_blk (by omega) (fun _ => Obj.cells #[.int .i64 0, .int .i64 0] 26 (0, 0))) (ownFrom_blk (by omega) (fun _ => Obj.cells #[.string t.s, vg, vd, .int .i64 t.p, .int .i64 t.q, .int .i64 t.r] 122 (0, 0))))) (OwnFrom.and (ownFrom_below (Nat.le_refl _) (by omega)) (fun _ _ _ _ hs hg _ => Nat.le_trans hs hg.size)))
    (fun _ _ _ _ _ hs _ _ => hs)
    ⟨⟨⟨r2, r3⟩, ⟨v1, v0⟩⟩, hB, by omega⟩
    (fun x a' W => ∃ Bx, w.heap.size + 8 ≤ Bx ∧ W.heap[Bx]? = some (.cells #[.int .i64 x.1, .int .i64 x.2] 26 (0, 0)) ∧ a' = { tmps := #[.agg #[.string t.s, vg, vd, .int .i64 t.p, .int .i64 t.q, .int .i64 t.r], .int .i64 lo, .int .i64 hi, .func (.func g) #[] #[q], .pointer (some ⟨w.heap.size, 0, none⟩), undef, undef, undef, .pointer (some ⟨w.heap.size + 1, 0, none⟩), .pointer (some ⟨w.heap.size + 2, 0, none⟩), .pointer (some ⟨w.heap.size + 3, 0, none⟩), .pointer (some ⟨Bx, 0, none⟩), undef, .int .i64 lo, .int .i64 hi, .func (.func g) #[] #[q], .func (.func 228) #[] #[.pointer (some ⟨w.heap.size + 7, 0, none⟩), .pointer (some ⟨w.heap.size + 4, 0, none⟩), .pointer (some ⟨w.heap.size + 5, 0, none⟩), .pointer (some ⟨w.heap.size + 6, 0, none⟩)], (.agg #[.int .i64 (x.1), .int .i64 (x.2)]), undef, undef, undef, undef, undef, undef, undef, undef, undef, undef, undef, undef, undef, undef, undef, undef, undef, undef, undef, undef, undef, undef, undef, undef, undef, undef, undef, undef, undef, undef, undef, undef, undef, undef, undef], defers := [] })
    (fun x a' _ X Y row hs hg hr => by obtain ⟨Bx, k1, k2, k3⟩ := hs; exact ⟨Bx, k1, (hg.block Bx (Array.getElem?_eq_some_iff.1 k2).1 (fun e => by obtain ⟨_, o, ho, hc⟩ := hr Bx e.symm; rw [k2] at ho; cases ho; cases hc)).trans k2, k3⟩)
    ?assign ?body ?done ?stop
  case assign =>
    rintro l pre x W K ⟨⟨⟨s2, s3⟩, ⟨s1, s0⟩⟩, hBW, hsW⟩ hKK
    change Code.wpIn _ _ _ _ _ _ (lay W [])
    gi_wp2
    have hlt : ∀ {k : Nat} {o : Obj}, W.heap[k]? = some o → (lay W [Sum.inl (Obj.cells #[Value.int IntKind.i64 x.1, Value.int IntKind.i64 x.2] 26 (0, 0))]).heap[k]? = some o := fun h => (Below.heap_alloc W _ _ (Array.getElem?_eq_some_iff.1 h).1).trans h
    exact hKK _ _ ((KeepsOthers.alloc W _).from _) (Kept.of_below (lay_extends W _) (fun k hk => by have := hps k hk; omega)) ⟨⟨⟨hlt s2, hlt s3⟩, ⟨hlt s1, hlt s0⟩⟩, hBW.alloc hBW.size _, by rw [lay_size]; unfold posn; omega⟩ ⟨W.heap.size, by omega, lay_get W _ 0 _ rfl, rfl⟩
  case body =>
    rintro l pre x a' W hl hr ⟨⟨⟨s2, s3⟩, ⟨s1, s0⟩⟩, hBW, hsW⟩ ⟨Bx, hBx, sx, rfl⟩ hlt
    have c20 := cell_blk (i := 0) s2
    have c21 := cell_blk (i := 1) s2
    have f20 := froz_blk (i := 0) s2
    have f21 := froz_blk (i := 1) s2
    have c30 := cell_blk (i := 0) s3
    have f30 := froz_blk (i := 0) s3
    have cx0 := cell_blk (i := 0) sx
    have cx1 := cell_blk (i := 1) sx
    simp at c20 c21 c30 cx0 cx1
    cases pre with
    | nil =>
      gi_wp2
      refine ⟨kf_set (kf_set (kf_set (kf_set (kf_set (KeepsFrom.refl _ W) _ _ _) _ _ _) _ _ _) _ _ _) _ _ _, ((((Kept.refl p W).set (fun k hk => (hpn k hk).1)).set (fun k hk => (hpn k hk).1)).set (fun k hk => (hpn k hk).2) |>.set (fun k hk => (hpn k hk).1)).set (fun k hk => (hpn k hk).1), ⟨⟨?_, ?_⟩, ?_, ?_⟩, ?_, ?_⟩
      · refine (set_blk (set_blk (far_blk (set_blk (set_blk s2)) (by omega)))).trans ?_
        simp [mn_eq, mx_eq, hullL]
      · exact (far_blk (far_blk (set_blk (far_blk (far_blk s3 (by omega)) (by omega))) (by omega)) (by omega)).trans rfl
      · exact far_blk (far_blk (far_blk (far_blk (far_blk s1 (by omega)) (by omega)) (by omega)) (by omega)) (by omega)
      · exact far_blk (far_blk (far_blk (far_blk (far_blk s0 (by omega)) (by omega)) (by omega)) (by omega)) (by omega)
      · exact ((((hBW.setCell (by simp) _).setCell (by simp) _).setCell (by simp) _).setCell (by simp) _).setCell (by simp) _
      · simp; omega
    | cons y pre =>
      gi_wp2
      refine ⟨kf_set (kf_set (KeepsFrom.refl _ W) _ _ _) _ _ _, ((Kept.refl p W).set (fun k hk => (hpn k hk).1)).set (fun k hk => (hpn k hk).1), ⟨⟨?_, ?_⟩, ?_, ?_⟩, ?_, ?_⟩
      · refine (set_blk (set_blk s2)).trans ?_
        rw [hullL_snoc _ _ (List.cons_ne_nil _ _)]
        simp [mn_eq, mx_eq, hull2]
      · exact (far_blk (far_blk s3 (by omega)) (by omega)).trans rfl
      · exact far_blk (far_blk s1 (by omega)) (by omega)
      · exact far_blk (far_blk s0 (by omega)) (by omega)
      · exact (hBW.setCell (by simp) _).setCell (by simp) _
      · simp; omega
  case done =>
    rintro D ys W hD rfl ⟨⟨⟨s2, s3⟩, ⟨s1, s0⟩⟩, hBW, hsW⟩ hK
    have c20 := cell_blk (i := 0) s2
    have c21 := cell_blk (i := 1) s2
    have c05 := cell_blk (i := 5) s0
    have f10 := froz_blk (i := 0) s1
    have f11 := froz_blk (i := 1) s1
    have c10 := cell_blk (i := 0) s1
    have c11 := cell_blk (i := 1) s1
    simp at c20 c21 c05 c10 c11
    have m0 : 0 ≤ cdiv (100 * t.r) 8 ∧ cdiv (100 * t.r) 8 ≤ 1250001 := by unfold cdiv; omega
    obtain ⟨bd0, bd1, bd2⟩ := pcs_bnd hA lo hi
    by_cases hc : lo = hi ∧ lo % 3600000 = 0
    · obtain ⟨hc1, hc2⟩ := hc
      subst hc1
      have g2 : (lo % 3600000 == 0) = true := beq_iff_eq.2 hc2
      gi_wp2
      have u1 := set_blk (i := 1) (v := .int .i64 (hullL (pcs A lo lo)).2) (set_blk (i := 0) (v := .int .i64 (hullL (pcs A lo lo)).1) s1)
      have hK' := far_blk (b := w.heap.size + 1) (i := 1) (v := .int .i64 (hullL (pcs A lo lo)).2) (far_blk (b := w.heap.size + 1) (i := 0) (v := .int .i64 (hullL (pcs A lo lo)).1) hK (by omega)) (by omega)
      refine ⟨by simp, .inl ⟨_, _, rfl, run_takeDeferred hK', ?_⟩⟩
      have u2 := (World.putObj_heap_other (o := .deferred none) (by omega : w.heap.size + 1 ≠ D)).trans u1
      have d0 := cell_blk (i := 0) u2
      have d1 := cell_blk (i := 1) u2
      simp at d0 d1
      refine ⟨(.agg #[.int .i64 ((hullL (pcs A lo lo)).1), .int .i64 ((hullL (pcs A lo lo)).2)]), by simp [results, Tryz.results202, go_sem, d0, d1], ?_, bw_of (((hBW.setCell (by simp) _).setCell (by simp) _).trans (belowK_b (w := w) (Nat.le_refl _) _ D _ _ (by omega) hK' rfl rfl))⟩
      rw [ovr, if_pos ⟨rfl, hc2⟩]
    · by_cases hc1 : lo = hi
      · subst hc1
        have g2 : (lo % 3600000 == 0) = false := beq_eq_false_iff_ne.2 fun e => hc ⟨rfl, e⟩
        gi_wp2_with fail
        refine ⟨trivial, (callsIn_wide.2 (inc_ceil _ _ W (by decide) (by omega) (by omega))).mono ?_⟩
        rintro e w' ⟨rfl, hw⟩
        subst hw
        gi_wp2
        have u1 := set_blk (i := 1) (v := .int .i64 ((hullL (pcs A lo lo)).2 + cdiv (100 * t.r) 8)) (set_blk (i := 0) (v := .int .i64 ((hullL (pcs A lo lo)).1 - cdiv (100 * t.r) 8)) s1)
        have hK' := far_blk (b := w.heap.size + 1) (i := 1) (v := .int .i64 ((hullL (pcs A lo lo)).2 + cdiv (100 * t.r) 8)) (far_blk (b := w.heap.size + 1) (i := 0) (v := .int .i64 ((hullL (pcs A lo lo)).1 - cdiv (100 * t.r) 8)) hK (by omega)) (by omega)
        refine ⟨by simp, .inl ⟨_, _, rfl, run_takeDeferred hK', ?_⟩⟩
        have u2 := (World.putObj_heap_other (o := .deferred none) (by omega : w.heap.size + 1 ≠ D)).trans u1
        have d0 := cell_blk (i := 0) u2
        have d1 := cell_blk (i := 1) u2
        simp at d0 d1
        refine ⟨(.agg #[.int .i64 ((hullL (pcs A lo lo)).1 - cdiv (100 * t.r) 8), .int .i64 ((hullL (pcs A lo lo)).2 + cdiv (100 * t.r) 8)]), by simp [results, Tryz.results202, go_sem, d0, d1], ?_, bw_of (((hBW.setCell (by simp) _).setCell (by simp) _).trans (belowK_b (w := w) (Nat.le_refl _) _ D _ _ (by omega) hK' rfl rfl))⟩
        rw [ovr, if_neg (fun e => by rw [e.2] at g2; cases g2)]
      · have g1 : (lo == hi) = false := beq_eq_false_iff_ne.2 hc1
        gi_wp2_with fail
        refine ⟨trivial, (callsIn_wide.2 (inc_ceil _ _ W (by decide) (by omega) (by omega))).mono ?_⟩
        rintro e w' ⟨rfl, hw⟩
        subst hw
        gi_wp2
        have u1 := set_blk (i := 1) (v := .int .i64 ((hullL (pcs A lo hi)).2 + cdiv (100 * t.r) 8)) (set_blk (i := 0) (v := .int .i64 ((hullL (pcs A lo hi)).1 - cdiv (100 * t.r) 8)) s1)
        have hK' := far_blk (b := w.heap.size + 1) (i := 1) (v := .int .i64 ((hullL (pcs A lo hi)).2 + cdiv (100 * t.r) 8)) (far_blk (b := w.heap.size + 1) (i := 0) (v := .int .i64 ((hullL (pcs A lo hi)).1 - cdiv (100 * t.r) 8)) hK (by omega)) (by omega)
        refine ⟨by simp, .inl ⟨_, _, rfl, run_takeDeferred hK', ?_⟩⟩
        have u2 := (World.putObj_heap_other (o := .deferred none) (by omega : w.heap.size + 1 ≠ D)).trans u1
        have d0 := cell_blk (i := 0) u2
        have d1 := cell_blk (i := 1) u2
        simp at d0 d1
        refine ⟨(.agg #[.int .i64 ((hullL (pcs A lo hi)).1 - cdiv (100 * t.r) 8), .int .i64 ((hullL (pcs A lo hi)).2 + cdiv (100 * t.r) 8)]), by simp [results, Tryz.results202, go_sem, d0, d1], ?_, bw_of (((hBW.setCell (by simp) _).setCell (by simp) _).trans (belowK_b (w := w) (Nat.le_refl _) _ D _ _ (by omega) hK' rfl rfl))⟩
        rw [ovr, if_neg hc]
  case stop =>
    rintro D c pre W _ _ h _
    exact h.elim
end Go.Proofs.YtjfpgpipbooilaaGreat
/- The unwrapped hour angles: increments.angles and the reference. -/
namespace Go.Proofs.YtjfpgpipbooilaaGreat
open Go.RowKit

theorem info_int4 : (Tryz.prog.info? 3).map (fun i => (i.zero, i.size, i.bytes)) = some (some (.int .i64 0), 1, 8) := by kernel_rfl
theorem row_form {w : World} {base size n : Nat} {e : TypeId} {v : Value} {xs : List Value} (h : w.ownsRow base e size v n xs) (hn : 0 < n) : ∃ g cap, v = .slice (some ⟨g, 0, none⟩) n cap := by
  rcases h.2 with ⟨_, h0⟩ | ⟨g, cap, _, h1, _⟩
  · omega
  · exact ⟨g, cap, h1⟩
theorem row_le {w : World} {base base' size n : Nat} {e : TypeId} {v : Value} {xs : List Value} (h : w.ownsRow base e size v n xs) (hb : base' ≤ base) : w.ownsRow base' e size v n xs :=
  ⟨h.1, h.2.imp id fun ⟨g, cap, cur, h1, h2, h3⟩ => ⟨g, cap, cur, h1, Nat.le_trans hb h2, h3⟩⟩
def ang (g : List Int) : Nat → Int
  | 0 => 100 * nth g 0
  | k + 1 => ang g k + (100 * (nth g (k + 1) - nth g k)) % 21600000
def angs (g : List Int) (k : Nat) : List Value := (List.range k).map fun i => .int .i64 (ang g i)
theorem angs_succ (g : List Int) (k : Nat) : angs g (k + 1) = angs g k ++ [.int .i64 (ang g k)] := by simp [angs, List.range_succ]
theorem angs_get (g : List Int) (k i : Nat) (h : i < k) : (angs g k)[i]? = some (.int .i64 (ang g i)) := by simp [angs, h]
theorem ang_bd (g : List Int) (h : ∀ i, 0 ≤ nth g i ∧ nth g i ≤ 216000) : ∀ k : Nat, 0 ≤ ang g k ∧ ang g k ≤ 21600000 * ((k : Int) + 1)
  | 0 => by have := h 0; simp only [ang]; omega
  | k + 1 => by have := ang_bd g h k; simp only [ang]; omega

set_option maxHeartbeats 4000000 in
set_option maxRecDepth 100000 in
theorem inc_angles (v : Value) (t : TrkV) (w : World) (hv : Trk w v t) (h1 : 1 ≤ t.g.length) (h2 : t.g.length ≤ 100) (hb : ∀ i, 0 ≤ nth t.g i ∧ nth t.g i ≤ 216000) :
    Calls Tryz.prog 201 #[v] w fun e w' => ∃ v d, e = .returned v ∧ w' = bw w d ∧ (bw w d).ownsRow w.heap.size 3 1 v t.g.length (angs t.g t.g.length) := by
  obtain ⟨i0, hi, hz0, hz1, hz2⟩ := info_parts info_int4
  obtain ⟨vg, vd, rfl, -, hg, -⟩ := hv
  obtain ⟨a, cap, rfl, hl1, hwf, hc⟩ := hg
  obtain ⟨b, o, rfl, hbs, hcc⟩ := hc (by intro e; rw [e] at h1; simp at h1)
  replace hcc : ∀ i, i < t.g.length → w.cell? ⟨b, o + i, none⟩ = some (.int .i64 (nth t.g i)) := hcc
  clear hc hwf
  obtain ⟨m, hm⟩ : ∃ m, t.g.length = m := ⟨_, rfl⟩
  rw [hm] at h1 h2 hl1 hcc ⊢
  refine lay_start ?_
  have c0 := hcc 0 (by omega)
  rw [Nat.add_zero] at c0
  have b0 := hb 0
  have hm0 : (0 : Int) < (m : Int) := by omega
  go_enter Tryz.func201, Tryz.ntmps201
  go_wp2_with fail
  go_loopw [3, 4] (fun v i wr => ∃ (j : Nat) (d : Ext), j + 1 ≤ m ∧ i = .int .i64 ((j : Int) + 1) ∧ wr = lay w [.inr d, .inl (.cells #[.string t.s, .slice (some ⟨b, o, none⟩) m cap, vd, .int .i64 t.p, .int .i64 t.q, .int .i64 t.r] 122 (0, 0))] ∧ (lay w [.inr d, .inl (.cells #[.string t.s, .slice (some ⟨b, o, none⟩) m cap, vd, .int .i64 t.p, .int .i64 t.q, .int .i64 t.r] 122 (0, 0))]).ownsRow (lay w [.inl (.cells #[.string t.s, .slice (some ⟨b, o, none⟩) m cap, vd, .int .i64 t.p, .int .i64 t.q, .int .i64 t.r] 122 (0, 0))]).heap.size 3 1 v (j + 1) (angs t.g (j + 1))) (fun _ i _ => m - (intOf i).toNat)
  case atStart =>
    obtain ⟨d, hd⟩ := lay_ex (lay w [.inl (.cells #[.string t.s, .slice (some ⟨b, o, none⟩) m cap, vd, .int .i64 t.p, .int .i64 t.q, .int .i64 t.r] 122 (0, 0))]) [.inl (.cells #[.int .i64 (100 * nth t.g 0)] 3 (0, 0))]
    refine ⟨0, d, h1, rfl, by first | exact hd | (simp only [go_sem] at hd ⊢; exact hd) | trace_state, ?_⟩
    rw [show lay w [.inr d, .inl (.cells #[.string t.s, .slice (some ⟨b, o, none⟩) m cap, vd, .int .i64 t.p, .int .i64 t.q, .int .i64 t.r] 122 (0, 0))] = _ from hd.symm]
    have hr := World.ownsRow_lit (e := 3) (size := 1) (lay w [.inl (.cells #[.string t.s, .slice (some ⟨b, o, none⟩) m cap, vd, .int .i64 t.p, .int .i64 t.q, .int .i64 t.r] 122 (0, 0))]) #[.int .i64 (100 * nth t.g 0)] 1 (Nat.le_refl _) (by decide) rfl
    rw [lay_size] at hr ⊢
    exact hr
  case round =>
    obtain ⟨j, dd, hj, rfl, rfl, hown⟩ := hrel
    by_cases hlt : j + 1 < m
    · obtain ⟨g, cp, rfl⟩ := row_form hown (by omega)
      have hrow := hown.cellAt j (by omega)
      rw [angs_get _ _ _ (by omega)] at hrow
      have hgb := hown.lt g rfl
      have hrow2 : ∀ d' : Ext, (lay w [.inr d', .inr dd, .inl (.cells #[.string t.s, .slice (some ⟨b, o, none⟩) m cap, vd, .int .i64 t.p, .int .i64 t.q, .int .i64 t.r] 122 (0, 0))]).cell? ⟨g, j, none⟩ = some (.int .i64 (ang t.g j)) := fun d' => (bw_cell _ d' g j hgb.2).trans hrow
      clear hrow
      have e1 : IntKind.i64.wrap ((j : Int) + 1 - 1) = j := by rw [Int.add_sub_cancel]; exact IntWalk.i64_in _ (by omega)
      have e2 : IntKind.i64.wrap (j : Int) = j := IntWalk.i64_in _ (by omega)
      have k0 := hcc j (by omega)
      have k1 := hcc (j + 1) (by omega)
      have x0 : (0 : Int) ≤ (j : Int) := by omega
      have x1 : (j : Int) < (m : Int) := by omega
      have x2 : (0 : Int) ≤ (j : Int) + 1 := by omega
      have x3 : (j : Int) + 1 < (m : Int) := by omega
      have x4 : (j : Int) < ((j + 1 : Nat) : Int) := by omega
      have x5 : ((j : Int) + 1).toNat = j + 1 := by omega
      have x6 : (j : Int) < (j : Int) + 1 := by omega
      have a1 := hb j
      have a2 := hb (j + 1)
      have a3 := ang_bd t.g hb j
      have e3 : IntKind.i64.wrap (nth t.g (j + 1) - nth t.g j) = nth t.g (j + 1) - nth t.g j := IntWalk.i64_in _ (by omega)
      have e5 : IntKind.i64.wrap (ang t.g j + (100 * (nth t.g (j + 1) - nth t.g j)) % 21600000) = ang t.g (j + 1) := IntWalk.i64_in _ (by omega)
      have a4 : IntKind.i64.wrap (100 * (nth t.g (j + 1) - nth t.g j)) = 100 * (nth t.g (j + 1) - nth t.g j) := IntWalk.i64_in _ (by omega)
      go_wp2_with fail
      refine region_mixT 22 [0, 0, 0, 0, 0, 0, 0, 0, 0, 0, 0, 0, 0, 0, 0, 0, 0, 0, 0, 0, 0, 1] (by kernel_rfl) (by kernel_rfl) (by kernel_rfl) (by kernel_rfl) (by simp) (by kernel_rfl) ?_
      simp only [List.take_succ_cons, List.take_zero, List.drop_succ_cons, List.drop_zero]
      repeat (first | (refine wpM_quiet (fun K hK => ?_); go_simp; first | (refine hK _ ?_; clear hK K) | (apply Exists.intro; refine ⟨fun _ => ?_, hK _ ?_⟩; (first | (go_at_call 76; exact bqs (angle_Wrap _ _) ⟨noExt _, (bw_noExt _).symm⟩)); clear hK K)) | (refine wpM_special (fun K hK d => ?_); go_simp; refine hK _ _ (by first | exact lay_in w [_] _ | exact lay_in w [_, _] _ | exact lay_in w [_, _, _] _ | exact lay_in w [_, _, _, _] _ | exact lay_in w [_, _, _, _, _] _ | exact lay_in w [_, _, _, _, _, _] _) ?_; clear hK K))
      refine wpM_nil ?_
      intro d1
      rw [lay_bw]
      refine wpList_push2 rfl _ _ 89 rfl 3 i0 (.int .i64 0) 1 8 Tryz.underlying89 hi hz0 hz1 hz2 rfl (by decide) (lay w [.inl (.cells #[.string t.s, .slice (some ⟨b, o, none⟩) m cap, vd, .int .i64 t.p, .int .i64 t.q, .int .i64 t.r] 122 (0, 0))]) (lay w [.inr d1, .inl (.cells #[.int .i64 (ang t.g (j + 1))] 3 (0, 0)), .inr d, .inr dd, .inl (.cells #[.string t.s, .slice (some ⟨b, o, none⟩) m cap, vd, .int .i64 t.p, .int .i64 t.q, .int .i64 t.r] 122 (0, 0))]) #[.int .i64 (ang t.g (j + 1))] 3 (posn w [d.n, dd.n, 1]) _ _ _ (lay_extends (lay w [.inl (.cells #[.string t.s, .slice (some ⟨b, o, none⟩) m cap, vd, .int .i64 t.p, .int .i64 t.q, .int .i64 t.r] 122 (0, 0))]) [.inr d1, .inl (.cells #[.int .i64 (ang t.g (j + 1))] 3 (0, 0)), .inr d, .inr dd]) (row_lay hown [.inr d1, .inl (.cells #[.int .i64 (ang t.g (j + 1))] 3 (0, 0)), .inr d]) (lay_get w [.inr d1, .inl (.cells #[.int .i64 (ang t.g (j + 1))] 3 (0, 0)), .inr d, .inr dd, .inl (.cells #[.string t.s, .slice (some ⟨b, o, none⟩) m cap, vd, .int .i64 t.p, .int .i64 t.q, .int .i64 t.r] 122 (0, 0))] 1 _ rfl) rfl rfl rfl (by simp [Value.oneCell']) (by unfold maxLen; omega) (by omega) ?_
      intro v' d' hown'
      go_wp2_with fail
      go_roundw
      case rel => exact ⟨j + 1, d', hlt, by go_num, rfl, by rw [angs_succ]; exact hown'⟩
      case measure => simp [intOf]; omega
    · obtain rfl : j + 1 = m := by omega
      go_wp2_with fail
      obtain ⟨d, hd⟩ := lay_ex w [.inr dd, .inl (.cells #[.string t.s, .slice (some ⟨b, o, none⟩) (j + 1) cap, vd, .int .i64 t.p, .int .i64 t.q, .int .i64 t.r] 122 (0, 0))]
      have hown2 := row_le (base' := w.heap.size) hown (by rw [lay_size]; unfold posn; omega)
      clear hown
      rw [hd] at hown2 ⊢
      go_ret
      exact ⟨_, d, rfl, rfl, hown2⟩
end Go.Proofs.YtjfpgpipbooilaaGreat
/- increments.gha, dec: the arcs of hours, the values over a span. -/
namespace Go.Proofs.YtjfpgpipbooilaaGreat
set_option maxHeartbeats 4000000
set_option maxRecDepth 100000
open Go.RowKit

theorem inc_ghaC (bl g n cap : Nat) (x h : Int) (w : World) (b1 : bl < w.heap.size) (b2 : g < w.heap.size) (c1 : w.cell? ⟨bl, 0, none⟩ = some (.slice (some ⟨g, 0, none⟩) n cap))
    (k : Nat) (hk : h = (k : Int)) (hn : k < n) (c2 : w.cell? ⟨g, k, none⟩ = some (.int .i64 x)) (x1 : -1099511627776 ≤ x) (x2 : x ≤ 1099511627776) :
    Calls Tryz.prog 203 #[.int .i64 h, .pointer (some ⟨bl, 0, none⟩)] w fun e w' => e = .returned (.agg #[.int .i64 (x - 50), .int .i64 (x + 50)]) ∧ ∃ d, w' = bw w d := by
  subst hk
  have y0 : (0 : Int) ≤ (k : Int) := by omega
  have y1 : (k : Int) < (n : Int) := by omega
  refine lay_start ?_
  go_enter Tryz.func203, Tryz.ntmps203
  go_wp2_with (go_at_call 204; refine (inc_around _ _ x1 x2).mono ?_; rintro e w' ⟨rfl, d, rfl⟩)
  exact bodyPost_ret (v := (.agg #[.int .i64 (x - 50), .int .i64 (x + 50)])) (by simp [results, Tryz.results203, go_sem]) rfl ⟨rfl, lay_ex _ _⟩
theorem inc_decC (bl b o n cap : Nat) (x h : Int) (w : World) (b1 : bl < w.heap.size) (b2 : b < w.heap.size) (c1 : w.cell? ⟨bl, 2, none⟩ = some (.slice (some ⟨b, o, none⟩) n cap))
    (k : Nat) (hk : h = (k : Int)) (hn : k < n) (c2 : w.cell? ⟨b, o + k, none⟩ = some (.int .i64 x)) (x1 : -54000 ≤ x) (x2 : x ≤ 54000) :
    Calls Tryz.prog 205 #[.int .i64 h, .pointer (some ⟨bl, 0, none⟩)] w fun e w' => e = .returned (.agg #[.int .i64 (100 * x - 50), .int .i64 (100 * x + 50)]) ∧ ∃ d, w' = bw w d := by
  subst hk
  have y0 : (0 : Int) ≤ (k : Int) := by omega
  have y1 : (k : Int) < (n : Int) := by omega
  refine lay_start ?_
  go_enter Tryz.func205, Tryz.ntmps205
  go_wp2_with (go_at_call 204; refine (inc_around _ _ (by omega) (by omega)).mono ?_; rintro e w' ⟨rfl, d, rfl⟩)
  exact bodyPost_ret (v := (.agg #[.int .i64 (100 * x - 50), .int .i64 (100 * x + 50)])) (by simp [results, Tryz.results205, go_sem]) rfl ⟨rfl, lay_ex _ _⟩
def arcA (f : Nat → Int) (h : Int) : Int × Int := (f (min h.toNat 24) - 50, f (min h.toNat 24) + 50)
theorem arcA_ok {f : Nat → Int} (h : ∀ i, i ≤ 24 → -1000000000000 ≤ f i ∧ f i ≤ 1000000000000) : ArcsOk (arcA f) where
  lo := fun k => by have := h (min k.toNat 24) (Nat.min_le_right _ _); simp only [arcA]; omega
  hi := fun k => by have := h (min k.toNat 24) (Nat.min_le_right _ _); simp only [arcA]; omega
  le := fun k => by simp only [arcA]; omega
theorem arcA_at (f : Nat → Int) (k : Nat) (h : k ≤ 24) : arcA f (k : Int) = (f k - 50, f k + 50) := by
  unfold arcA; rw [show min (k : Int).toNat 24 = k by omega]
structure GD (t : TrkV) : Prop where
  lg : t.g.length = 25
  ld : t.d.length = 25
  bg : ∀ i, 0 ≤ nth t.g i ∧ nth t.g i ≤ 216000
  bd : ∀ i, -54000 ≤ nth t.d i ∧ nth t.d i ≤ 54000
  r0 : 0 ≤ t.r
  r1 : t.r ≤ 1000
theorem ang_ok {t : TrkV} (h : GD t) : ∀ i, i ≤ 24 → -1000000000000 ≤ ang t.g i ∧ ang t.g i ≤ 1000000000000 := fun i hi => by
  have := ang_bd t.g h.bg i; omega
def dcl (l : List Int) (i : Nat) : Int := 100 * nth l i
theorem dcl_ok {t : TrkV} (h : GD t) : ∀ i, i ≤ 24 → -1000000000000 ≤ dcl t.d i ∧ dcl t.d i ≤ 1000000000000 := fun i _ => by
  have := h.bd i; unfold dcl; omega
def ghaO (t : TrkV) (lo hi : Int) : Int × Int := ovr (arcA (ang t.g)) lo hi t.r
def decO (t : TrkV) (lo hi : Int) : Int × Int := ovr (arcA (dcl t.d)) lo hi t.r
theorem hullL_ind {P : Int × Int → Prop} (hh : ∀ x y, P x → P y → P (hull2 x y)) {l : List (Int × Int)} (hl : l ≠ []) (h : ∀ y ∈ l, P y) : P (hullL l) := by
  cases l with
  | nil => exact absurd rfl hl
  | cons x l =>
    have : ∀ (l : List (Int × Int)) x, P x → (∀ y ∈ l, P y) → P (l.foldl hull2 x) := by
      intro l
      induction l with
      | nil => exact fun x h _ => h
      | cons y l ih => exact fun x h k => ih _ (hh _ _ h (k y (List.mem_cons_self ..))) (fun z hz => k z (List.mem_cons_of_mem _ hz))
    exact this l x (h x (List.mem_cons_self ..)) (fun z hz => h z (List.mem_cons_of_mem _ hz))
theorem pcs_ne (A : Int → Int × Int) (lo hi : Int) : pcs A lo hi ≠ [] := by simp [pcs]
theorem pcs_mem {A : Int → Int × Int} {lo hi : Int} {y : Int × Int} (h : y ∈ pcs A lo hi) : y = (insL A lo, insH A lo) ∨ y = (insL A hi, insH A hi) ∨ ∃ i : Nat, i < nhr lo hi ∧ y = A (lo / 3600000 + 1 + i) := by
  unfold pcs hrs at h
  rcases List.mem_append.1 h with h | h
  · simp only [List.mem_cons, List.not_mem_nil, or_false] at h
    exact h.imp id .inl
  · obtain ⟨i, hi, rfl⟩ := List.mem_map.1 h
    exact .inr (.inr ⟨i, List.mem_range.1 hi, rfl⟩)
theorem ins_in {A : Int → Int × Int} {B : Int} (h : ∀ k, -B ≤ (A k).1 ∧ (A k).1 ≤ (A k).2 ∧ (A k).2 ≤ B) (ms : Int) : -B ≤ insL A ms ∧ insL A ms ≤ insH A ms ∧ insH A ms ≤ B := by
  unfold insL insH
  split
  · exact h _
  · exact ⟨lin_ge (h _).1 (h _).1 (by omega) (by omega), lin_mono (h _).2.1 (h _).2.1 (by omega) (by omega), lin_le (h _).2.2 (h _).2.2 (by omega) (by omega)⟩
theorem pcs_in {A : Int → Int × Int} {B : Int} (h : ∀ k, -B ≤ (A k).1 ∧ (A k).1 ≤ (A k).2 ∧ (A k).2 ≤ B) (lo hi : Int) : -B ≤ (hullL (pcs A lo hi)).1 ∧ (hullL (pcs A lo hi)).1 ≤ (hullL (pcs A lo hi)).2 ∧ (hullL (pcs A lo hi)).2 ≤ B := by
  refine hullL_ind (P := fun x => -B ≤ x.1 ∧ x.1 ≤ x.2 ∧ x.2 ≤ B) (fun x y hx hy => by unfold hull2; dsimp only at *; omega) (pcs_ne _ _ _) fun y hy => ?_
  rcases pcs_mem hy with rfl | rfl | ⟨i, _, rfl⟩
  · exact ins_in h _
  · exact ins_in h _
  · exact h _
theorem arcA_in {f : Nat → Int} {B : Int} (h : ∀ i, i ≤ 24 → -B ≤ f i ∧ f i ≤ B) : ∀ k, -(B + 50) ≤ (arcA f k).1 ∧ (arcA f k).1 ≤ (arcA f k).2 ∧ (arcA f k).2 ≤ B + 50 := fun k => by
  have := h (min k.toNat 24) (Nat.min_le_right _ _); simp only [arcA]; omega
theorem ovr_in {A : Int → Int × Int} {B : Int} (h : ∀ k, -B ≤ (A k).1 ∧ (A k).1 ≤ (A k).2 ∧ (A k).2 ≤ B) (lo hi r : Int) (r0 : 0 ≤ r) (r1 : r ≤ 1000) : -(B + 12500) ≤ (ovr A lo hi r).1 ∧ (ovr A lo hi r).1 ≤ (ovr A lo hi r).2 ∧ (ovr A lo hi r).2 ≤ B + 12500 := by
  have h1 := pcs_in h lo hi
  unfold ovr; split
  · omega
  · have : 0 ≤ cdiv (100 * r) 8 ∧ cdiv (100 * r) 8 ≤ 12500 := by unfold cdiv; omega
    dsimp only; omega
theorem ghaO_valid {t : TrkV} (h : GD t) (lo hi : Int) : validB (ghaO t lo hi).1 (ghaO t lo hi).2 = true := by
  have := ovr_in (arcA_in (ang_ok h)) lo hi t.r h.r0 h.r1
  rw [validB_iff]; unfold ghaO; omega
theorem decO_valid {t : TrkV} (h : GD t) (lo hi : Int) : validB (decO t lo hi).1 (decO t lo hi).2 = true := by
  have := ovr_in (arcA_in (dcl_ok h)) lo hi t.r h.r0 h.r1
  rw [validB_iff]; unfold decO; omega

theorem inc_gha (v : Value) (t : TrkV) (lo hi : Int) (w : World) (hv : Trk w v t) (hg : GD t) (l0 : 0 ≤ lo) (l1 : lo ≤ 86400000) (h0 : 0 ≤ hi) (h1 : hi ≤ 86400000) :
    Calls Tryz.prog 170 #[v, .int .i64 lo, .int .i64 hi] w fun e w' => e = .returned (.tuple #[(.agg #[.int .i64 (turnLo (ghaO t lo hi).1 (ghaO t lo hi).2), .int .i64 (turnHi (ghaO t lo hi).1 (ghaO t lo hi).2)]), .int .i64 0]) ∧ ∃ d, w' = bw w d := by
  obtain ⟨vg, vd, hvv, -⟩ := id hv
  subst hvv
  have HV := Lib.hid (fun L => hv.lay L)
  have HG := Lib.hid hg
  refine lay_start ?_
  go_enter Tryz.func170, Tryz.ntmps170
  go_wp2_with fail
  refine (inc_angles _ t _ (HV.out _) (by rw [HG.out.lg]; decide) (by rw [HG.out.lg]; decide) HG.out.bg).mono ?_
  rintro e w' ⟨v', d, rfl, rfl, hown⟩
  rw [HG.out.lg] at hown
  obtain ⟨g, cp, rfl⟩ := row_form hown (by decide)
  have hrow : ∀ k, k < 25 → (bw (lay w [.inl (.cells #[.int .i64 0, .int .i64 0] 26 (0, 0)), .inl (.cells #[.string t.s, vg, vd, .int .i64 t.p, .int .i64 t.q, .int .i64 t.r] 122 (0, 0))]) d).cell? ⟨g, k, none⟩ = some (.int .i64 (ang t.g k)) := fun k hk => by rw [hown.cellAt k (by omega)]; exact angs_get _ _ _ hk
  have hgb := (hown.lt g rfl).2
  clear hown
  go_wp2_with fail
  refine (inc_over (arcA (ang t.g)) 203 (.pointer (some ⟨posn w [d.n, 1, 1], 0, none⟩)) _ t lo hi _ (arcA_ok (ang_ok HG.out)) (HV.out _) l0 l1 h0 h1 HG.out.r0 (by have := HG.out.r1; omega) (enters_of Tryz.func203 (by kernel_rfl) rfl) ?hat).mono ?_
  case hat =>
    intro W h hK a b
    obtain ⟨k, rfl⟩ := Int.eq_ofNat_of_zero_le a
    rw [arcA_at _ k (by omega)]
    have hab := ang_ok HG.out k (by omega)
    have z1 : posn w [d.n, 1, 1] < (lay w [.inl (.cells #[.slice (some ⟨g, 0, none⟩) 25 cp] 89 (0, 0)), .inr d, .inl (.cells #[.int .i64 0, .int .i64 0] 26 (0, 0)), .inl (.cells #[.string t.s, vg, vd, .int .i64 t.p, .int .i64 t.q, .int .i64 t.r] 122 (0, 0))]).heap.size := by rw [lay_size]; simp only [posn, shp, List.sum_cons, List.sum_nil]; omega
    have z2 : g < (lay w [.inl (.cells #[.slice (some ⟨g, 0, none⟩) 25 cp] 89 (0, 0)), .inr d, .inl (.cells #[.int .i64 0, .int .i64 0] 26 (0, 0)), .inl (.cells #[.string t.s, vg, vd, .int .i64 t.p, .int .i64 t.q, .int .i64 t.r] 122 (0, 0))]).heap.size := Nat.lt_of_lt_of_le hgb (lay_extends (bw (lay w [.inl (.cells #[.int .i64 0, .int .i64 0] 26 (0, 0)), .inl (.cells #[.string t.s, vg, vd, .int .i64 t.p, .int .i64 t.q, .int .i64 t.r] 122 (0, 0))]) d) [.inl (.cells #[.slice (some ⟨g, 0, none⟩) 25 cp] 89 (0, 0))]).size
    exact inc_ghaC (posn w [d.n, 1, 1]) g 25 cp (ang t.g k) k W (Nat.lt_of_lt_of_le z1 hK.size) (Nat.lt_of_lt_of_le z2 hK.size)
      ((hK.cell z1).trans (cell_blk (lay_get w [.inl (.cells #[.slice (some ⟨g, 0, none⟩) 25 cp] 89 (0, 0)), .inr d, .inl (.cells #[.int .i64 0, .int .i64 0] 26 (0, 0)), .inl (.cells #[.string t.s, vg, vd, .int .i64 t.p, .int .i64 t.q, .int .i64 t.r] 122 (0, 0))] 0 _ rfl))) k rfl (by omega) ((hK.cell z2).trans (((lay_extends (bw (lay w [.inl (.cells #[.int .i64 0, .int .i64 0] 26 (0, 0)), .inl (.cells #[.string t.s, vg, vd, .int .i64 t.p, .int .i64 t.q, .int .i64 t.r] 122 (0, 0))]) d) [.inl (.cells #[.slice (some ⟨g, 0, none⟩) 25 cp] 89 (0, 0))]).cell (p := ⟨g, k, none⟩) hgb).trans (hrow k (by omega)))) (by omega) (by omega)
  rintro e w' ⟨rfl, d2, rfl⟩
  have HVD := Lib.hid (ghaO_valid hg lo hi)
  clear hrow hgb
  rw [show ovr (arcA (ang t.g)) lo hi t.r = ghaO t lo hi from rfl]
  obtain ⟨O, hO⟩ : ∃ O, ghaO t lo hi = O := ⟨_, rfl⟩
  rw [hO] at HVD ⊢
  go_wp2_with (go_at_call 37; refine (angle_Turn _ _ _ HVD.out).mono ?_; rintro e w' ⟨rfl, d, rfl⟩)
  exact bodyPost_ret (v := .tuple #[(.agg #[.int .i64 (turnLo O.1 O.2), .int .i64 (turnHi O.1 O.2)]), .int .i64 0]) (by simp [results, Tryz.results170, go_sem]) rfl ⟨by rw [hO], lay_ex _ _⟩

theorem lin_le2 {x0 x1 n B : Int} (h0 : x0 ≤ B) (h1 : x1 ≤ B) (n0 : 0 ≤ n) (n1 : n ≤ 3600000) : (x0 * (3600000 - n) + x1 * n) / 3600000 ≤ B := by
  have a := Int.mul_le_mul_of_nonneg_right h0 (show 0 ≤ 3600000 - n by omega)
  have b := Int.mul_le_mul_of_nonneg_right h1 n0
  rw [Int.mul_sub B] at a
  omega
theorem lin_ge2 {x0 x1 n B : Int} (h0 : B ≤ x0) (h1 : B ≤ x1) (n0 : 0 ≤ n) (n1 : n ≤ 3600000) : B ≤ cdiv (x0 * (3600000 - n) + x1 * n) 3600000 := by
  have a := Int.mul_le_mul_of_nonneg_right h0 (show 0 ≤ 3600000 - n by omega)
  have b := Int.mul_le_mul_of_nonneg_right h1 n0
  rw [Int.mul_sub B] at a
  unfold cdiv
  omega
theorem ovr_meets {A : Int → Int × Int} {B : Int} (h : ∀ k, (A k).1 ≤ B ∧ -B ≤ (A k).2) (lo hi r : Int) (r0 : 0 ≤ r) : (ovr A lo hi r).1 ≤ B ∧ -B ≤ (ovr A lo hi r).2 := by
  have hi1 : ∀ ms, insL A ms ≤ B ∧ -B ≤ insH A ms := fun ms => by
    unfold insL insH
    split
    · exact h _
    · exact ⟨lin_le2 (h _).1 (h _).1 (by omega) (by omega), lin_ge2 (h _).2 (h _).2 (by omega) (by omega)⟩
  have h1 : (hullL (pcs A lo hi)).1 ≤ B ∧ -B ≤ (hullL (pcs A lo hi)).2 := hullL_ind (P := fun x => x.1 ≤ B ∧ -B ≤ x.2) (fun x y hx hy => by unfold hull2; dsimp only at *; omega) (pcs_ne _ _ _) fun y hy => by
    rcases pcs_mem hy with rfl | rfl | ⟨i, _, rfl⟩
    · exact hi1 _
    · exact hi1 _
    · exact h _
  unfold ovr; split
  · exact h1
  · have : 0 ≤ cdiv (100 * r) 8 := by unfold cdiv; omega
    dsimp only; omega
theorem decO_meets {t : TrkV} (h : GD t) (lo hi : Int) : (decO t lo hi).1 ≤ 5400000 ∧ -5400000 ≤ (decO t lo hi).2 :=
  ovr_meets (fun k => by have := h.bd (min k.toNat 24); simp only [arcA, dcl]; omega) lo hi t.r h.r0
theorem dec_meet {t : TrkV} (h : GD t) (lo hi : Int) : mx (decO t lo hi).1 (-5400000) ≤ mn (decO t lo hi).2 5400000 := by
  have h1 := decO_meets h lo hi
  have h2 := validB_iff.1 (decO_valid h lo hi)
  rw [mx_eq, mn_eq]; omega

theorem inc_dec (v : Value) (t : TrkV) (lo hi : Int) (w : World) (hv : Trk w v t) (hg : GD t) (l0 : 0 ≤ lo) (l1 : lo ≤ 86400000) (h0 : 0 ≤ hi) (h1 : hi ≤ 86400000) :
    Calls Tryz.prog 171 #[v, .int .i64 lo, .int .i64 hi] w fun e w' => e = .returned (.tuple #[(.agg #[.int .i64 (mx (decO t lo hi).1 (-5400000)), .int .i64 (mn (decO t lo hi).2 5400000)]), .int .i64 0]) ∧ ∃ d, w' = bw w d := by
  obtain ⟨vg, vd, hvv, -, -, hd, -⟩ := id hv
  obtain ⟨a, cap, rfl, -, -, hcc⟩ := hd
  obtain ⟨b, o, rfl, hbs, hcc⟩ := hcc (by intro e; have := hg.ld; rw [e] at this; cases this)
  replace hcc : ∀ i, i < t.d.length → w.cell? ⟨b, o + i, none⟩ = some (.int .i64 (nth t.d i)) := hcc
  rw [hg.ld] at hcc hvv
  subst hvv
  have HV := Lib.hid (fun L => hv.lay L)
  have HG := Lib.hid hg
  refine lay_start ?_
  go_enter Tryz.func171, Tryz.ntmps171
  go_wp2_with fail
  refine (inc_over (arcA (dcl t.d)) 205 (.pointer (some ⟨posn w [], 0, none⟩)) _ t lo hi _ (arcA_ok (dcl_ok HG.out)) (HV.out _) l0 l1 h0 h1 HG.out.r0 (by have := HG.out.r1; omega) (enters_of Tryz.func205 (by kernel_rfl) rfl) ?hat).mono ?_
  case hat =>
    intro W h hK a b'
    obtain ⟨k, rfl⟩ := Int.eq_ofNat_of_zero_le a
    rw [arcA_at _ k (by omega)]
    have hab := HG.out.bd k
    have z1 : posn w [] < (lay w [.inl (.cells #[.int .i64 0, .int .i64 0] 26 (0, 0)), .inl (.cells #[.string t.s, vg, .slice (some ⟨b, o, none⟩) 25 cap, .int .i64 t.p, .int .i64 t.q, .int .i64 t.r] 122 (0, 0))]).heap.size := by rw [lay_size]; simp only [posn, shp, List.sum_cons, List.sum_nil]; omega
    have z2 : b < (lay w [.inl (.cells #[.int .i64 0, .int .i64 0] 26 (0, 0)), .inl (.cells #[.string t.s, vg, .slice (some ⟨b, o, none⟩) 25 cap, .int .i64 t.p, .int .i64 t.q, .int .i64 t.r] 122 (0, 0))]).heap.size := Nat.lt_of_lt_of_le hbs (lay_extends w _).size
    exact inc_decC (posn w []) b o 25 cap (nth t.d k) k W (Nat.lt_of_lt_of_le z1 hK.size) (Nat.lt_of_lt_of_le z2 hK.size)
      ((hK.cell z1).trans (cell_blk (lay_get w [.inl (.cells #[.int .i64 0, .int .i64 0] 26 (0, 0)), .inl (.cells #[.string t.s, vg, .slice (some ⟨b, o, none⟩) 25 cap, .int .i64 t.p, .int .i64 t.q, .int .i64 t.r] 122 (0, 0))] 1 _ rfl))) k rfl (by omega) ((hK.cell z2).trans (((lay_extends w [.inl (.cells #[.int .i64 0, .int .i64 0] 26 (0, 0)), .inl (.cells #[.string t.s, vg, .slice (some ⟨b, o, none⟩) 25 cap, .int .i64 t.p, .int .i64 t.q, .int .i64 t.r] 122 (0, 0))]).cell (p := ⟨b, o + k, none⟩) hbs).trans (hcc k (by omega)))) (by omega) (by omega)
  rintro e w' ⟨rfl, d2, rfl⟩
  have HVD := Lib.hid (decO_valid hg lo hi)
  have HMG := Lib.hid (meet_good (dec_meet hg lo hi))
  clear hcc
  rw [show ovr (arcA (dcl t.d)) lo hi t.r = decO t lo hi from rfl]
  obtain ⟨O, hO⟩ : ∃ O, decO t lo hi = O := ⟨_, rfl⟩
  rw [hO] at HVD HMG ⊢
  go_wp2_with (go_at_call 206; refine (angle_Meet _ _ _ _ _ HVD.out (by decide)).mono ?_; rintro e w' ⟨rfl, d, rfl⟩)
  obtain ⟨g1, g2, g3⟩ := HMG.out
  exact bodyPost_ret (v := .tuple #[(.agg #[.int .i64 (mx O.1 (-5400000)), .int .i64 (mn O.2 5400000)]), .int .i64 0]) (by simp [results, Tryz.results171, go_sem, g1, g2, g3]) rfl ⟨by rw [hO], lay_ex _ _⟩
end Go.Proofs.YtjfpgpipbooilaaGreat
