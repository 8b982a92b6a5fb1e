/- Contracts and plain laws, several texts in one: Pg2; Row; Sta1; Pgs; Mpb; Cal -/
import Derived.Test.YtmmfkleplbofgaaGreatDoorProg
import Derived.WalkKit
import Derived.WalkSpells
import Derived.WalkLawsBesides
import Derived.Lib.Hide
import Derived.BigQuiet
import Derived.Deep.RegionWith
import Derived.Deep.Slices
import Derived.Deep.AppendLies
import Derived.Maps.AppendAt
import Derived.Laws.AppendOwnNone
import Derived.Laws.OwnMore
import Derived.WideShapes
import Derived.Lib.SmallJoins
import Derived.Shelf.Abstract
import Derived.Maps.Own
import Derived.Maps.OwnOps
import Derived.Maps.Views
import Derived.Test.YtmmfkleplbofgaaGreatDoorBAA
import Derived.Test.YtmmfkleplbofgaaGreatDoorBAB
import Derived.Test.YtmmfkleplbofgaaGreatDoorBAC
import Derived.Test.YtmmfkleplbofgaaGreatDoorBAG
/- Lists of numbers in a range: package page's and the reference's; valid tracks. -/
namespace Go.Proofs.YtmmfkleplbofgaaGreatDoor
open Go.RowKit

def InL (l : List Int) (lo hi : Int) (k : Nat) : Prop := ∀ i, i < k → lo ≤ l.getD i 0 ∧ l.getD i 0 ≤ hi
noncomputable def inLB (l : List Int) (lo hi : Int) : Bool := @decide (InL l lo hi l.length) (Classical.propDecidable _)
theorem inLB_iff {l : List Int} {lo hi : Int} : inLB l lo hi = true ↔ InL l lo hi l.length := by unfold inLB; simp
theorem inLB_no {l : List Int} {lo hi : Int} (h : ¬ InL l lo hi l.length) : inLB l lo hi = false := by cases e : inLB l lo hi; rfl; exact absurd (inLB_iff.1 e) h
def outB (n lo hi : Int) : Bool := decide (n < lo ∨ hi < n)
theorem outB_iff {n lo hi : Int} : outB n lo hi = true ↔ n < lo ∨ hi < n := by simp [outB]
set_option maxHeartbeats 400000 in
theorem page_within1 (n lo hi : Int) (b1 b2 : Nat) (w : World) (c1 : w.cell? ⟨b1, 0, none⟩ = some (.int .i64 lo)) (c2 : w.cell? ⟨b2, 0, none⟩ = some (.int .i64 hi)) :
    Calls Tryz.prog 78 #[.int .i64 n, .pointer (some ⟨b1, 0, none⟩), .pointer (some ⟨b2, 0, none⟩)] w fun e w' => e = .returned (.bool (outB n lo hi)) ∧ w' = w := by
  go_enter Tryz.func78, Tryz.ntmps78
  go_wp2
  all_goals go_ret
  all_goals exact ⟨ret_bool (by rw [Bool.eq_iff_iff]; simp [outB, *]; try omega), rfl⟩
/-- The first index of a number out of the range, or -1. -/
def idxO (l : List Int) (lo hi : Int) : Nat → Nat → Int
  | _, 0 => -1
  | k, f + 1 => if outB (l.getD k 0) lo hi = true then k else idxO l lo hi (k + 1) f
theorem idxO_spec (l : List Int) (lo hi : Int) : ∀ f k, InL l lo hi k → k + f = l.length → decide (0 ≤ idxO l lo hi k f) = !inLB l lo hi
  | 0, k, h, e => by
    have : inLB l lo hi = true := inLB_iff.2 (by rw [← e]; exact h)
    rw [this]; rfl
  | f + 1, k, h, e => by
    unfold idxO
    split
    · rename_i ho
      have : inLB l lo hi = false := inLB_no fun hh => by have := hh k (by omega); have := outB_iff.1 ho; omega
      rw [this]
      simp
    · rename_i ho
      exact idxO_spec l lo hi f (k + 1) (fun i hi' => by
        by_cases e : i = k
        · subst e; rw [outB_iff] at ho; omega
        · exact h i (by omega)) (by omega)
theorem idxO_hit {l : List Int} {lo hi : Int} {k f : Nat} (h : outB (l.getD k 0) lo hi = true) : idxO l lo hi k (f + 1) = k := by unfold idxO; rw [if_pos h]
theorem idxO_miss {l : List Int} {lo hi : Int} {k f : Nat} (h : outB (l.getD k 0) lo hi = false) : idxO l lo hi k (f + 1) = idxO l lo hi (k + 1) f := by
  show (if _ then _ else _) = _
  rw [if_neg (by rw [h]; exact Bool.false_ne_true)]
theorem idxO_go {l : List Int} {lo hi : Int} {k m : Nat} (h : outB (l.getD k 0) lo hi = false) (hk : k < m) (e : idxO l lo hi 0 m = idxO l lo hi k (m - k)) : idxO l lo hi 0 m = idxO l lo hi (k + 1) (m - (k + 1)) := by
  rw [e, show m - k = m - (k + 1) + 1 by omega, idxO_miss h]
theorem idxO_got {l : List Int} {lo hi : Int} {k m : Nat} (h : outB (l.getD k 0) lo hi = true) (hk : k < m) (e : idxO l lo hi 0 m = idxO l lo hi k (m - k)) : (k : Int) = idxO l lo hi 0 m := by
  rw [e, show m - k = m - (k + 1) + 1 by omega, idxO_hit h]
set_option maxHeartbeats 1000000 in
theorem slices_IndexFunc (v : Value) (l : List Int) (lo hi : Int) (b1 b2 : Nat) (w : World) (hv : Lst w v l) (c1 : w.cell? ⟨b1, 0, none⟩ = some (.int .i64 lo)) (c2 : w.cell? ⟨b2, 0, none⟩ = some (.int .i64 hi)) :
    Calls Tryz.prog 62 #[v, .func (.func 78) #[] #[.pointer (some ⟨b1, 0, none⟩), .pointer (some ⟨b2, 0, none⟩)]] w fun e w' => e = .returned (.int .i64 (idxO l lo hi 0 l.length)) ∧ w' = w := by
  obtain ⟨a, cap, rfl, g1, -, k1⟩ := hv
  have W1 := Lib.hid (fun n => page_within1 n lo hi b1 b2 w c1 c2)
  clear c1 c2
  obtain ⟨m, hm⟩ : ∃ m, m = l.length := ⟨_, rfl⟩
  rw [← hm] at g1 k1
  rw [← hm]
  by_cases hz : m = 0
  · subst hz
    clear k1 hm
    go_enter Tryz.func62, Tryz.ntmps62
    go_wp2_with fail
    refine wp_loop_rounds 1 ?_
    rw [rounds_succ]
    go_wp2
    go_ret
    exact ⟨rfl, rfl⟩
  · obtain ⟨b, o, rfl, s1, r1⟩ := k1 (by rintro rfl; simp at hm; omega)
    have HR := Lib.hid r1
    clear r1 k1 hm
    go_enter Tryz.func62, Tryz.ntmps62
    go_wp2_with fail
    go_loop [8] (fun i => ∃ k : Nat, k ≤ m ∧ i = .int .i64 k ∧ idxO l lo hi 0 m = idxO l lo hi k (m - k)) (fun i => m - (intOf i).toNat)
    case atStart => exact ⟨0, Nat.zero_le _, rfl, rfl⟩
    case round =>
      obtain ⟨k, hk, rfl, hA⟩ := hrel
      have HA := Lib.hid hA
      clear hA
      by_cases hlt : k < m
      · have e1 := HR.out k hlt
        obtain ⟨x, hx⟩ : ∃ x, x = l.getD k 0 := ⟨_, rfl⟩
        rw [← hx] at e1
        cases ho : outB x lo hi
        · have HN := Lib.hid (idxO_go (by rw [← hx]; exact ho) hlt HA.out)
          clear hx
          go_wp2_with (go_at_call 78; refine (W1.out _).mono ?_; rintro e w' ⟨rfl, rfl⟩)
          go_round
          case rel => exact ⟨k + 1, by omega, by go_num, HN.out⟩
          case measure => simp [intOf]; omega
        · have HN := Lib.hid (idxO_got (by rw [← hx]; exact ho) hlt HA.out)
          clear hx
          go_wp2_with (go_at_call 78; refine (W1.out _).mono ?_; rintro e w' ⟨rfl, rfl⟩)
          go_ret
          exact ⟨ret_int HN.out, rfl⟩
      · obtain rfl : k = m := by omega
        have HN : Hid ((-1 : Int) = idxO l lo hi 0 k) := Lib.hid (by rw [HA.out, Nat.sub_self]; rfl)
        go_wp2
        go_ret
        exact ⟨ret_int HN.out, rfl⟩
set_option maxHeartbeats 1000000 in
theorem slices_ContainsFunc (v : Value) (l : List Int) (lo hi : Int) (b1 b2 : Nat) (w : World) (hv : Lst w v l) (c1 : w.cell? ⟨b1, 0, none⟩ = some (.int .i64 lo)) (c2 : w.cell? ⟨b2, 0, none⟩ = some (.int .i64 hi)) :
    Calls Tryz.prog 42 #[v, .func (.func 78) #[] #[.pointer (some ⟨b1, 0, none⟩), .pointer (some ⟨b2, 0, none⟩)]] w fun e w' => e = .returned (.bool (!inLB l lo hi)) ∧ w' = w := by
  have W1 := slices_IndexFunc v l lo hi b1 b2 w hv c1 c2
  have HS := Lib.hid (idxO_spec l lo hi l.length 0 (fun i hi => absurd hi (Nat.not_lt_zero i)) (by omega))
  generalize idxO l lo hi 0 l.length = x at *
  have HW := Lib.hid W1
  clear W1 hv c1 c2
  go_enter Tryz.func42, Tryz.ntmps42
  go_wp2_with (go_at_call 62; refine HW.out.mono ?_; rintro e w' ⟨rfl, rfl⟩)
  go_ret
  exact ⟨ret_bool HS.out, rfl⟩
set_option maxHeartbeats 1000000 in
theorem page_within (v : Value) (l : List Int) (lo hi : Int) (w : World) (hv : Lst w v l) :
    Calls Tryz.prog 53 #[v, .int .i64 lo, .int .i64 hi] w fun e w' => e = .returned (.bool (inLB l lo hi)) ∧ ∃ d, w' = bw w d := by
  have HC := Lib.hid (fun L b1 b2 c1 c2 => slices_ContainsFunc v l lo hi b1 b2 (lay w L) (hv.lay L) c1 c2)
  clear hv
  refine lay_start ?_
  go_enter Tryz.func53, Tryz.ntmps53
  go_wp2_with (go_at_call 42; refine (HC.out _ _ _ (by go_simp) (by go_simp)).mono ?_; rintro e w' ⟨rfl, rfl⟩)
  go_ret
  exact ⟨ret_bool (by simp), lay_ex _ _⟩
/-- A track is right. -/
structure TrkOk (t : TrkV) : Prop where
  nm : nameB t.s = true
  lg : t.g.length = 25
  ld : t.d.length = 25
  bg : inLB t.g 0 215999 = true
  bd : inLB t.d (-54000) 54000 = true
  bp : inLB [t.p] 0 200 = true
  bq : inLB [t.q] 0 620 = true
  br : inLB [t.r] 0 1000 = true
noncomputable def trkB (t : TrkV) : Bool := nameB t.s && ((t.g.length : Int) == 25) && ((t.d.length : Int) == 25) && inLB t.g 0 215999 && inLB t.d (-54000) 54000 && inLB [t.p] 0 200 && inLB [t.q] 0 620 && inLB [t.r] 0 1000
theorem trkB_iff {t : TrkV} : trkB t = true ↔ TrkOk t := by
  unfold trkB
  simp only [Bool.and_eq_true, beq_iff_eq]
  constructor
  · rintro ⟨⟨⟨⟨⟨⟨⟨h1, h2⟩, h3⟩, h4⟩, h5⟩, h6⟩, h7⟩, h8⟩; exact ⟨h1, by omega, by omega, h4, h5, h6, h7, h8⟩
  · rintro ⟨h1, h2, h3, h4, h5, h6, h7, h8⟩; exact ⟨⟨⟨⟨⟨⟨⟨h1, by omega⟩, by omega⟩, h4⟩, h5⟩, h6⟩, h7⟩, h8⟩
theorem lst_one (w : World) (L : List (Obj ⊕ Ext)) (p : Int) (t : TypeId) (hp : (Lit.int .i64 p).wf = true) : Lst (lay w (.inl (.cells #[.int .i64 p] t) :: L)) (.slice (some ⟨posn w (shp L), 0, none⟩) 1 1) [p] := by
  refine ⟨_, 1, rfl, by simp, fun i hi => ?_, fun _ => ⟨posn w (shp L), 0, rfl, ?_, fun i hi => ?_⟩⟩
  · obtain rfl : i = 0 := by have : i < 1 := hi; omega
    exact hp
  · rw [lay_size]; simp only [shp, posn, List.sum_cons]; omega
  · obtain rfl : i = 0 := by have : i < 1 := hi; omega
    have hl : (shp L).length < (Sum.inl (.cells #[.int .i64 p] t) :: L : List (Obj ⊕ Ext)).length := by rw [shp_len]; simp
    have e0 : (Sum.inl (.cells #[.int .i64 p] t) :: L : List (Obj ⊕ Ext)).length - (shp L).length = 1 := by rw [shp_len]; simp
    rw [lay_cell _ _ _ _ hl (by rw [e0]; rfl) (by rw [e0]; rfl), e0]
    rfl
set_option maxHeartbeats 2000000 in
set_option maxRecDepth 100000 in
theorem page_validTrack (v : Value) (t : TrkV) (w : World) (hv : Trk w v t) :
    Calls Tryz.prog 32 #[v] w fun e w' => e = .returned (.bool (trkB t)) ∧ ∃ d, w' = bw w d := by
  obtain ⟨vg, vd, rfl, hs, hg, hd, hp, hq, hr⟩ := hv
  obtain ⟨s, gs, ds, p, q, r⟩ := t
  simp only at hs hg hd hp hq hr ⊢
  have HG := Lib.hid hg
  have HD := Lib.hid hd
  obtain ⟨ag, cg, rfl, g1, -, -⟩ := hg
  obtain ⟨ad, cd, rfl, d1, -, -⟩ := hd
  have HP := Lib.hid hp
  have HQ := Lib.hid hq
  have HR := Lib.hid hr
  clear hp hq hr
  refine lay_start ?_
  go_enter Tryz.func32, Tryz.ntmps32
  go_wp2_with (first | (go_at_call 52; refine (dec_IsName _ _ hs).mono ?_; rintro e w' ⟨rfl, rfl⟩) | (go_at_call_of 53 (Value.int .i64 215999); refine (page_within _ gs _ _ _ (HG.out.lay _)).mono ?_; rintro e w' ⟨rfl, d, rfl⟩) | (go_at_call_of 53 (Value.int .i64 54000); refine (page_within _ ds _ _ _ (HD.out.lay _)).mono ?_; rintro e w' ⟨rfl, d, rfl⟩) | (go_at_call_of 53 (Value.int .i64 200); refine (page_within _ [p] _ _ _ (by exact lst_one _ _ _ _ HP.out)).mono ?_; rintro e w' ⟨rfl, d, rfl⟩) | (go_at_call_of 53 (Value.int .i64 620); refine (page_within _ [q] _ _ _ (by exact lst_one _ _ _ _ HQ.out)).mono ?_; rintro e w' ⟨rfl, d, rfl⟩) | (go_at_call_of 53 (Value.int .i64 1000); refine (page_within _ [r] _ _ _ (by exact lst_one _ _ _ _ HR.out)).mono ?_; rintro e w' ⟨rfl, d, rfl⟩))
  all_goals go_ret
  all_goals exact ⟨ret_bool (by simp [trkB, *]), lay_ex _ _⟩
end Go.Proofs.YtmmfkleplbofgaaGreatDoor
/- Rows of records of k cells: slices that read as a list, rows of the call's own, an append of one record or of a whole slice, a store into a record. No function of the program. -/
namespace Go.Proofs.YtmmfkleplbofgaaGreatDoor
open Go.RowKit

/-- A kind of record: the element type, the slice type, the cells, the bytes; a record's cells; what holds of each record. -/
structure RecT (α : Type) where
  E : TypeId
  S : TypeId
  k : Nat
  bytes : Nat
  enc : α → List Value
  wf : α → Prop
structure RecOk {α : Type} (R : RecT α) : Prop where
  len : ∀ x, (R.enc x).length = R.k
  one : ∀ x, ∀ u ∈ R.enc x, u.oneCell' = true
  pos : 0 < R.k
  und : Tryz.prog.underlying R.S = some (.slice R.E)
  info : ∃ i z, Tryz.prog.info? R.E = some i ∧ i.zero = some z ∧ i.size = R.k ∧ i.bytes = R.bytes ∧ z.cells.size = R.k
  small : R.bytes ≤ 1000
variable {α : Type} {R : RecT α}

theorem flat_len (hR : RecOk R) (l : List α) : (l.flatMap R.enc).length = l.length * R.k := by
  induction l with
  | nil => simp
  | cons x l ih => rw [List.flatMap_cons, List.length_append, hR.len, ih, List.length_cons, Nat.succ_mul, Nat.add_comm]
theorem flat_get (hR : RecOk R) : ∀ {l : List α} {i j : Nat} {x : α}, l[i]? = some x → j < R.k → (l.flatMap R.enc)[i * R.k + j]? = (R.enc x)[j]?
  | [], i, j, x, h, _ => by simp at h
  | y :: l, 0, j, x, h, hj => by
    simp only [List.getElem?_cons_zero, Option.some.injEq] at h
    subst h
    rw [List.flatMap_cons, List.getElem?_append_left (by rw [hR.len]; omega)]
    congr 1; omega
  | y :: l, i + 1, j, x, h, hj => by
    rw [List.getElem?_cons_succ] at h
    rw [List.flatMap_cons, List.getElem?_append_right (by rw [hR.len, Nat.succ_mul]; omega), hR.len]
    rw [show (i + 1) * R.k + j - R.k = i * R.k + j by rw [Nat.succ_mul]; omega]
    exact flat_get hR h hj
theorem flat_set (hR : RecOk R) : ∀ {l : List α} {i j : Nat} {x y : α} {u : Value}, l[i]? = some x → j < R.k → R.enc y = (R.enc x).set j u → (l.flatMap R.enc).set (i * R.k + j) u = (l.set i y).flatMap R.enc
  | [], i, j, x, y, u, h, _, _ => by simp at h
  | z :: l, 0, j, x, y, u, h, hj, he => by
    simp only [List.getElem?_cons_zero, Option.some.injEq] at h
    subst h
    rw [List.set_cons_zero, List.flatMap_cons, List.flatMap_cons, List.set_append, if_pos (by rw [hR.len]; omega), he]
    congr 2; omega
  | z :: l, i + 1, j, x, y, u, h, hj, he => by
    rw [List.getElem?_cons_succ] at h
    rw [List.set_cons_succ, List.flatMap_cons, List.flatMap_cons, List.set_append, if_neg (by rw [hR.len, Nat.succ_mul]; omega), hR.len]
    rw [show (i + 1) * R.k + j - R.k = i * R.k + j by rw [Nat.succ_mul]; omega, flat_set hR h hj he]

/-- The value is a slice that reads, in this world, as these records. -/
def SlG (R : RecT α) (w : World) (v : Value) (l : List α) : Prop :=
  ∃ a cap, v = .slice a l.length cap ∧ (l.length ≤ cap ∧ cap ≤ 9223372036854775807) ∧ (∀ x ∈ l, R.wf x) ∧
    (l ≠ [] → ∃ b o, a = some ⟨b, o, none⟩ ∧ b < w.heap.size ∧ ∀ (i : Nat) x, l[i]? = some x → ∀ (j : Nat) u, (R.enc x)[j]? = some u → w.cell? ⟨b, o + (i * R.k + j), none⟩ = some u)
theorem SlG.ext {w w' : World} {v : Value} {l : List α} (h : SlG R w v l) (hb : Below w.heap.size w w') : SlG R w' v l := by
  obtain ⟨a, cap, h1, h2, h0, h3⟩ := h
  refine ⟨a, cap, h1, h2, h0, fun hl => ?_⟩
  obtain ⟨b, o, h4, h5, h6⟩ := h3 hl
  exact ⟨b, o, h4, Nat.lt_of_lt_of_le h5 hb.size, fun i x hx j u hu => (hb.cell (p := ⟨b, o + (i * R.k + j), none⟩) h5).trans (h6 i x hx j u hu)⟩
theorem SlG.bw {w : World} {v : Value} {l : List α} (h : SlG R w v l) (d : Ext) : SlG R (bw w d) v l := h.ext (bw_below w d)
theorem SlG.lay {w : World} {v : Value} {l : List α} (h : SlG R w v l) (L : List (Obj ⊕ Ext)) : SlG R (lay w L) v l := h.ext (lay_extends w L)
theorem lay_appG (w : World) (A B : List (Obj ⊕ Ext)) : lay w (A ++ B) = lay (lay w B) A := by
  induction A with
  | nil => rfl
  | cons x A ih =>
    cases x with
    | inl o => exact congrArg (fun W => World.alloc W o) ih
    | inr d => exact congrArg (fun W => Go.Proofs.YtmmfkleplbofgaaGreatDoor.bw W d) ih
theorem lay_belowG {w : World} {A B : List (Obj ⊕ Ext)} : Below (lay w B).heap.size (lay w B) (lay w (A ++ B)) := by rw [lay_appG]; exact lay_extends _ _
theorem slG_on {w : World} {v : Value} {l : List α} {A B : List (Obj ⊕ Ext)} (h : SlG R (lay w B) v l) : SlG R (lay w (A ++ B)) v l := h.ext lay_belowG
theorem SlG.nil (R : RecT α) (w : World) : SlG R w (.slice none 0 0) [] := ⟨none, 0, rfl, by simp, fun _ h => absurd h (List.not_mem_nil), fun h => absurd rfl h⟩
theorem slG_none {w : World} {a : Option Addr} {c : Nat} (hc : c ≤ 9223372036854775807) : SlG R w (.slice a 0 c) [] := ⟨a, c, rfl, ⟨Nat.zero_le _, hc⟩, fun _ h => absurd h (List.not_mem_nil), fun h => absurd rfl h⟩
theorem SlG.open {w : World} {v : Value} {l : List α} (h : SlG R w v l) (hl : 0 < l.length) :
    ∃ b o cap, v = .slice (some ⟨b, o, none⟩) l.length cap ∧ (l.length ≤ cap ∧ cap ≤ 9223372036854775807) ∧ b < w.heap.size ∧ ∀ (i : Nat) x, l[i]? = some x → ∀ (j : Nat) u, (R.enc x)[j]? = some u → w.cell? ⟨b, o + (i * R.k + j), none⟩ = some u := by
  obtain ⟨a, cap, rfl, h2, _, h3⟩ := h
  obtain ⟨b, o, rfl, h5, h6⟩ := h3 (by intro e; rw [e] at hl; exact Nat.lt_irrefl 0 hl)
  exact ⟨b, o, cap, rfl, h2, h5, h6⟩
theorem SlG.wf {w : World} {v : Value} {l : List α} (h : SlG R w v l) : ∀ x ∈ l, R.wf x := by
  obtain ⟨_, _, _, _, h, _⟩ := h; exact h
theorem SlG.form {w : World} {v : Value} {l : List α} (h : SlG R w v l) : ∃ a cap, v = .slice a l.length cap := by
  obtain ⟨a, c, e, _⟩ := h; exact ⟨a, c, e⟩
theorem slG_cut {w : World} {b o n cap f k c : Nat} {l : List α} (h : SlG R w (.slice (some ⟨b, o, none⟩) n cap) l) (hf : f + k ≤ l.length) (hc : k ≤ c ∧ c ≤ 9223372036854775807) : SlG R w (.slice (some ⟨b, o + f * R.k, none⟩) k c) ((l.drop f).take k) := by
  have hl : ((l.drop f).take k).length = k := by rw [List.length_take, List.length_drop]; omega
  obtain ⟨a', cap', he, hcc, hwf, hcell⟩ := h
  simp only [Value.slice.injEq] at he
  obtain ⟨he, rfl, rfl⟩ := he
  refine ⟨_, c, by rw [hl], by rw [hl]; exact hc, fun x hx => hwf x (List.mem_of_mem_drop (List.mem_of_mem_take hx)), fun hne => ⟨b, o + f * R.k, rfl, ?_⟩⟩
  have hk : 0 < k := by rw [← hl]; exact List.length_pos_iff.2 hne
  obtain ⟨b', o', e, hb, hr⟩ := hcell (by intro e; rw [e] at hf; simp at hf; omega)
  rw [← he] at e
  cases e
  refine ⟨hb, fun i x hx j u hu => ?_⟩
  have hi : i < k := by
    have := (List.getElem?_eq_some_iff.1 hx).1
    rw [hl] at this; exact this
  rw [List.getElem?_take, if_pos hi, List.getElem?_drop] at hx
  have := hr _ x hx j u hu
  rw [Nat.add_mul] at this
  rw [Nat.add_assoc, ← Nat.add_assoc (f * R.k)]
  exact this

/-- The value is a row of the call's own (its blocks behind base) that holds these records. -/
def OwG (R : RecT α) (w : World) (base : Nat) (v : Value) (l : List α) : Prop :=
  w.ownsRow base R.E R.k v l.length (l.flatMap R.enc) ∧ ∀ x ∈ l, R.wf x
theorem OwG.nil (R : RecT α) (w : World) (base : Nat) : OwG R w base (.slice none 0 0) [] := ⟨World.ownsRow_nil w base _ _, fun _ h => absurd h (List.not_mem_nil)⟩
theorem OwG.form {w : World} {base : Nat} {v : Value} {l : List α} (h : OwG R w base v l) : ∃ a cap, v = .slice a l.length cap := by
  rcases h.1.2 with ⟨rfl, hz⟩ | ⟨g, cap, cur, rfl, _⟩
  · exact ⟨none, 0, by rw [hz]⟩
  · exact ⟨_, cap, rfl⟩
theorem OwG.form1 {w : World} {base : Nat} {v : Value} {l : List α} (h : OwG R w base v l) (hl : 0 < l.length) : ∃ g cap, v = .slice (some ⟨g, 0, none⟩) l.length cap ∧ base ≤ g ∧ g < w.heap.size ∧ l.length ≤ cap ∧ cap ≤ 9223372036854775807 := by
  rcases h.1.2 with ⟨rfl, hz⟩ | ⟨g, cap, cur, rfl, h1, h2, h3, h4, _⟩
  · omega
  · have hM : maxLen = 9223372036854775807 := by decide
    exact ⟨g, cap, rfl, h1, (Array.getElem?_eq_some_iff.1 h2).1, h3, by omega⟩
theorem OwG.cell (hR : RecOk R) {w : World} {base g cap n : Nat} {l : List α} (h : OwG R w base (.slice (some ⟨g, 0, none⟩) n cap) l) {i j : Nat} {x : α} {u : Value} (hx : l[i]? = some x) (hu : (R.enc x)[j]? = some u) : w.cell? ⟨g, i * R.k + j, none⟩ = some u := by
  have hn : n = l.length := by
    obtain ⟨a, c, e⟩ := h.form
    cases e; rfl
  subst hn
  have hi := (List.getElem?_eq_some_iff.1 hx).1
  have hj : j < R.k := by have := (List.getElem?_eq_some_iff.1 hu).1; rw [hR.len] at this; exact this
  rw [h.1.cellAt _ (by have : (i + 1) * R.k ≤ l.length * R.k := Nat.mul_le_mul_right _ hi
                       rw [Nat.succ_mul] at this; omega), flat_get hR hx hj, hu]
theorem OwG.froz {w : World} {base g cap n : Nat} {l : List α} (h : OwG R w base (.slice (some ⟨g, 0, none⟩) n cap) l) (j : Nat) : w.frozen? ⟨g, j, none⟩ = false := by
  have hn : n = l.length := by
    obtain ⟨a, c, e⟩ := h.form
    cases e; rfl
  subst hn
  exact h.1.frozenAt j
theorem OwG.sl (hR : RecOk R) {w : World} {base : Nat} {v : Value} {l : List α} (h : OwG R w base v l) : SlG R w v l := by
  by_cases hl : l = []
  · subst hl
    rcases h.1.2 with ⟨rfl, hz⟩ | ⟨g, cap, cur, rfl, _, _, h3, h4, _⟩
    · exact SlG.nil R w
    · have hM : maxLen = 9223372036854775807 := by decide
      exact ⟨_, cap, rfl, ⟨h3, by omega⟩, h.2, fun hne => absurd rfl hne⟩
  · have hl' : 0 < l.length := List.length_pos_iff.2 hl
    obtain ⟨g, cap, rfl, h1, h2, h3⟩ := h.form1 hl'
    exact ⟨_, cap, rfl, h3, h.2, fun _ => ⟨g, 0, rfl, h2, fun i x hx j u hu => by rw [Nat.zero_add]; exact h.cell hR hx hu⟩⟩
theorem OwG.ext {w w' : World} {base : Nat} {v : Value} {l : List α} (h : OwG R w base v l) (hb : Below w.heap.size w w') : OwG R w' base v l := by
  refine ⟨⟨h.1.1, h.1.2.imp id ?_⟩, h.2⟩
  rintro ⟨g, cap, cur, e, h1, h2, h3⟩
  exact ⟨g, cap, cur, e, h1, (hb.block g (Array.getElem?_eq_some_iff.1 h2).1).trans h2, h3⟩
theorem OwG.lay {w : World} {base : Nat} {v : Value} {l : List α} (h : OwG R w base v l) (L : List (Obj ⊕ Ext)) : OwG R (lay w L) base v l := h.ext (lay_extends w L)
theorem OwG.bw {w : World} {base : Nat} {v : Value} {l : List α} (h : OwG R w base v l) (d : Ext) : OwG R (bw w d) base v l := h.ext (bw_below w d)
theorem OwG.le {w : World} {base base' : Nat} {v : Value} {l : List α} (h : OwG R w base v l) (hb : base' ≤ base) : OwG R w base' v l := ⟨⟨h.1.1, h.1.2.imp id fun ⟨g, cap, cur, e, h1, h2⟩ => ⟨g, cap, cur, e, Nat.le_trans hb h1, h2⟩⟩, h.2⟩
theorem owG_on {w : World} {base : Nat} {v : Value} {l : List α} {A B : List (Obj ⊕ Ext)} (h : OwG R (lay w B) base v l) : OwG R (lay w (A ++ B)) base v l := h.ext lay_belowG

/-- An append of one record that was just laid down. -/
theorem push_rec (hR : RecOk R) {ops : Array Oper} {rest : List Oper} {o : Oper} {a : Act} {Q : Exit → Act → World → Prop} (hgd : o.guard = none) (s x : Operand)
    (ho : o.op = .call { callee := .builtin .append, args := #[s, x], argTypes := #[R.S, R.S] })
    (W0 : World) (wb : World) (c : α) (cs : Array Value) (te : TypeId) (xb : Nat) (v : Value) (l : List α) (hw : Below W0.heap.size W0 wb) (hown : OwG R wb W0.heap.size v l)
    (hcell : wb.heap[xb]? = some (.cells cs te (0, 0))) (hcs : cs.toList = R.enc c) (hs : a.eval s = v) (hx : a.eval x = .slice (some ⟨xb, 0, none⟩) 1 1)
    (hn : l.length ≤ 1000000000) (hc : R.wf c)
    (h : ∀ v' d, OwG R (Go.Proofs.YtmmfkleplbofgaaGreatDoor.bw W0 d) W0.heap.size v' (l ++ [c]) → wpList Tryz.prog ops Q rest (a.put o.dst v') (Go.Proofs.YtmmfkleplbofgaaGreatDoor.bw W0 d)) :
    wpList Tryz.prog ops Q (o :: rest) a wb := by
  obtain ⟨i, z, hi, hz0, hz1, hz2, hz3⟩ := hR.info
  have hM : maxLen = 9223372036854775807 := by decide
  have hb := hR.small
  have hb2 : (l.length + 1) * R.bytes ≤ 1000000001 * 1000 := Nat.mul_le_mul (by omega) hb
  refine wpList_append_lies wb hgd s x R.S ho W0.heap.size R.E i z R.k R.bytes hR.und hi hz0 hz1 hz2 hz3 hR.pos v l.length (l.flatMap R.enc) hs hown.1 ⟨xb, 0, none⟩ 1 1 (R.enc c) hx (by rw [hR.len, Nat.one_mul]) (by rw [← hcs]; exact World.news_of_block hcell) (hR.one c) (by decide) (by omega) (by omega) hw.size wb.heap.size rfl ?_
  intro g cap w' hown' hg hat _
  obtain ⟨d, hd⟩ := bw_of (w := W0) (w' := w') (hw.grown hg hw.size (fun k hk => (hown.1.lt k hk).1))
  subst hd
  refine h _ d ⟨?_, fun y hy => ?_⟩
  · rw [List.flatMap_append, List.length_append]
    simpa using hown'
  · rcases List.mem_append.1 hy with hy | hy
    · exact hown.2 y hy
    · rw [List.mem_singleton.1 hy]; exact hc
/-- An append of a whole slice that reads. -/
theorem push_slG (hR : RecOk R) {ops : Array Oper} {rest : List Oper} {o : Oper} {a : Act} {Q : Exit → Act → World → Prop} (hgd : o.guard = none) (s x : Operand)
    (ho : o.op = .call { callee := .builtin .append, args := #[s, x], argTypes := #[R.S, R.S] })
    (W0 : World) (wb : World) (v1 : Value) (l1 : List α) (A : Option Addr) (n c : Nat) (l2 : List α) (hw : Below W0.heap.size W0 wb) (hown : OwG R wb W0.heap.size v1 l1)
    (hsrc : SlG R wb (.slice A n c) l2) (hA : A = none → c = 0) (hs : a.eval s = v1) (hx : a.eval x = .slice A n c) (hn : l1.length + l2.length ≤ 1000000000)
    (h : ∀ v' d, OwG R (Go.Proofs.YtmmfkleplbofgaaGreatDoor.bw W0 d) W0.heap.size v' (l1 ++ l2) → wpList Tryz.prog ops Q rest (a.put o.dst v') (Go.Proofs.YtmmfkleplbofgaaGreatDoor.bw W0 d)) :
    wpList Tryz.prog ops Q (o :: rest) a wb := by
  obtain ⟨i, z, hi, hz0, hz1, hz2, hz3⟩ := hR.info
  have hM : maxLen = 9223372036854775807 := by decide
  obtain ⟨a', cap', he, hcc, hwf, hcell⟩ := hsrc
  simp only [Value.slice.injEq] at he
  obtain ⟨rfl, rfl, rfl⟩ := he
  cases A with
  | none =>
    obtain rfl := hA rfl
    have hl2 : l2 = [] := by
      rcases List.eq_nil_or_concat l2 with h | ⟨_, _, h⟩
      · exact h
      · have : l2 ≠ [] := by rw [h]; simp
        obtain ⟨_, _, h, _⟩ := hcell this
        cases h
    subst hl2
    obtain ⟨d, rfl⟩ := bw_of hw
    refine wpList_append_own_none hgd s x R.S ho W0.heap.size R.E i R.k hR.und hi v1 l1.length (l1.flatMap R.enc) hs hown.1 hx ?_
    exact h v1 d (by rw [List.append_nil]; exact hown)
  | some ad =>
    have hb2 : (l1.length + l2.length) * R.bytes ≤ 1000000000 * 1000 := Nat.mul_le_mul hn hR.small
    refine wpList_append_own wb hgd s x R.S ho W0.heap.size R.E i z R.k R.bytes hR.und hi hz0 hz1 hz2 hz3 hR.pos v1 l1.length (l1.flatMap R.enc) hs hown.1 ad l2.length c (l2.flatMap R.enc) hx (flat_len hR l2) ?_ ?_ (by omega) (by omega) hw.size ?_
    · intro j u hu
      have hj : j < l2.length * R.k := by have := (List.getElem?_eq_some_iff.1 hu).1; rw [flat_len hR] at this; exact this
      have hne : l2 ≠ [] := by intro e; rw [e] at hj; simp at hj
      obtain ⟨b, o', e, _, hr⟩ := hcell hne
      cases e
      have hq : j / R.k < l2.length := Nat.div_lt_of_lt_mul (by rw [Nat.mul_comm]; exact hj)
      have hm : j % R.k < R.k := Nat.mod_lt _ hR.pos
      have e1 : j = j / R.k * R.k + j % R.k := by rw [Nat.mul_comm]; exact (Nat.div_add_mod j R.k).symm
      have hx' : l2[j / R.k]? = some l2[j / R.k] := List.getElem?_eq_getElem hq
      rw [e1, flat_get hR hx' hm] at hu
      have h3 := hr _ _ hx' _ _ hu
      rw [← e1] at h3
      have hadd : (⟨b, o', none⟩ : Addr).add j = ⟨b, o' + j, none⟩ := by
        unfold Addr.add
        split
        · rename_i h0
          have : j = 0 := by simpa using h0
          subst this; rfl
        · rfl
      rw [hadd]
      exact h3
    · intro u hu
      obtain ⟨y, _, hy⟩ := List.mem_flatMap.1 hu
      exact hR.one y u hy
    · intro v' w' hown' hg _
      obtain ⟨d, hd⟩ := bw_of (w := W0) (w' := w') (hw.grown hg hw.size (fun k hk => (hown.1.lt k hk).1))
      subst hd
      refine h v' d ⟨by rw [List.length_append, List.flatMap_append]; exact hown', fun y hy => ?_⟩
      rcases List.mem_append.1 hy with hy | hy
      · exact hown.2 y hy
      · exact hwf y hy
/-- An empty literal. -/
theorem owG_empty (R : RecT α) {w : World} {L : List (Obj ⊕ Ext)} : OwG R (Go.Proofs.YtmmfkleplbofgaaGreatDoor.lay w (.inl (.cells #[] R.E (0, 0)) :: L)) (Go.Proofs.YtmmfkleplbofgaaGreatDoor.lay w L).heap.size (.slice (some ⟨posn w (shp L), 0, none⟩) 0 0) [] := by
  rw [← lay_size w L]
  exact ⟨World.ownsRow_lit (Go.Proofs.YtmmfkleplbofgaaGreatDoor.lay w L) #[] 0 (Nat.le_refl _) (by decide) (by simp), fun _ h => absurd h (List.not_mem_nil)⟩
/-- A literal. -/
theorem owG_lit (hR : RecOk R) {w : World} {L : List (Obj ⊕ Ext)} {cs : Array Value} (l : List α) (hc : cs.toList = l.flatMap R.enc) (hl : l.length ≤ 1000) (hw : ∀ x ∈ l, R.wf x) :
    OwG R (Go.Proofs.YtmmfkleplbofgaaGreatDoor.lay w (.inl (.cells cs R.E (0, 0)) :: L)) (Go.Proofs.YtmmfkleplbofgaaGreatDoor.lay w L).heap.size (.slice (some ⟨posn w (shp L), 0, none⟩) l.length l.length) l := by
  rw [← lay_size w L]
  refine ⟨?_, hw⟩
  have := World.ownsRow_lit (base := (Go.Proofs.YtmmfkleplbofgaaGreatDoor.lay w L).heap.size) (e := R.E) (size := R.k) (Go.Proofs.YtmmfkleplbofgaaGreatDoor.lay w L) cs l.length (Nat.le_refl _) (by unfold maxLen; omega) (by rw [← Array.length_toList, hc, flat_len hR])
  rw [hc] at this
  exact this
/-- A store into a field of a record of such a row. -/
theorem owG_store (hR : RecOk R) {w : World} {base g cap n : Nat} {l : List α} (h : OwG R w base (.slice (some ⟨g, 0, none⟩) n cap) l) {i j : Nat} {x y : α} {u : Value} (hx : l[i]? = some x) (hj : j < R.k) (he : R.enc y = (R.enc x).set j u) (hy : R.wf y) :
    OwG R (w.setCell ⟨g, i * R.k + j, none⟩ u) base (.slice (some ⟨g, 0, none⟩) n cap) (l.set i y) := by
  have hn : n = l.length := by
    obtain ⟨a, c, e⟩ := h.form
    cases e; rfl
  subst hn
  refine ⟨by have := (h.1.stored (i * R.k + j) u).1; rw [flat_set hR hx hj he] at this; rw [List.length_set]; exact this, fun z hz => ?_⟩
  rcases List.mem_or_eq_of_mem_set hz with hz | hz
  · exact h.2 z hz
  · rw [hz]; exact hy
theorem bw_storeG {w : World} {d : Ext} {g i : Nat} {v : Value} (hg : w.heap.size ≤ g) : ∃ d', (Go.Proofs.YtmmfkleplbofgaaGreatDoor.bw w d).setCell ⟨g, i, none⟩ v = Go.Proofs.YtmmfkleplbofgaaGreatDoor.bw w d' := by
  refine bw_of ?_
  have h1 := bw_below w d
  refine ⟨h1.1, h1.2, h1.3, ?_, fun k hk => ?_⟩
  · rw [World.size_setCell]; exact h1.size
  · rw [heap_setCell_other _ ⟨g, i, none⟩ k v (by intro e; have : k = g := by simpa using e
                                                  omega)]
    exact h1.block k hk
end Go.Proofs.YtmmfkleplbofgaaGreatDoor
/- Rows of records and indexes: what pages need (the stars' part is left out). -/
namespace Go.Proofs.YtmmfkleplbofgaaGreatDoor
open Go.RowKit

theorem recInfo {E : TypeId} {k b : Nat} (h : (Tryz.prog.info? E).map (fun i => (i.zero.map (fun z => z.cells.size), i.size, i.bytes)) = some (some k, k, b)) : ∃ i z, Tryz.prog.info? E = some i ∧ i.zero = some z ∧ i.size = k ∧ i.bytes = b ∧ z.cells.size = k := by
  cases hi : Tryz.prog.info? E with
  | none => rw [hi] at h; cases h
  | some i =>
    rw [hi] at h
    simp only [Option.map_some, Option.some.injEq, Prod.mk.injEq] at h
    obtain ⟨h1, h2, h3⟩ := h
    cases hz : i.zero with
    | none => rw [hz] at h1; cases h1
    | some z =>
      rw [hz] at h1
      simp only [Option.map_some, Option.some.injEq] at h1
      exact ⟨i, z, rfl, hz, h2, h3, h1⟩
/-- The first place from which a list's rest begins with one that p holds of, or -1. -/
def idxR {α : Type} (p : α → Bool) : List α → Nat → Int
  | [], _ => -1
  | x :: l, k => if p x then (k : Int) else idxR p l (k + 1)
theorem idxR_bd {α : Type} (p : α → Bool) : ∀ (l : List α) (k : Nat), idxR p l k = -1 ∨ ((k : Int) ≤ idxR p l k ∧ idxR p l k < (k : Int) + l.length)
  | [], _ => .inl rfl
  | x :: l, k => by
    unfold idxR
    split
    · right; simp only [List.length_cons]; omega
    · rcases idxR_bd p l (k + 1) with h | h
      · exact .inl h
      · right; simp only [List.length_cons]; omega
theorem idxR_any {α : Type} (p : α → Bool) : ∀ (l : List α) (k : Nat), decide (0 ≤ idxR p l k) = l.any p
  | [], _ => rfl
  | x :: l, k => by
    unfold idxR
    rw [List.any_cons, ← idxR_any p l (k + 1)]
    cases p x
    · simp
    · simp
theorem idxR_miss {α : Type} {p : α → Bool} {l : List α} {k : Nat} {x : α} (hx : l[k]? = some x) (h : p x = false) (e : idxR p l 0 = idxR p (l.drop k) k) : idxR p l 0 = idxR p (l.drop (k + 1)) (k + 1) := by
  obtain ⟨hk, rfl⟩ := List.getElem?_eq_some_iff.1 hx
  rw [e, List.drop_eq_getElem_cons hk]
  show (if p l[k] then (k : Int) else _) = _
  rw [h]; rfl
theorem idxR_got {α : Type} {p : α → Bool} {l : List α} {k : Nat} {x : α} (hx : l[k]? = some x) (h : p x = true) (e : idxR p l 0 = idxR p (l.drop k) k) : (k : Int) = idxR p l 0 := by
  obtain ⟨hk, rfl⟩ := List.getElem?_eq_some_iff.1 hx
  rw [e, List.drop_eq_getElem_cons hk]
  show _ = (if p l[k] then (k : Int) else _)
  rw [h]; rfl
theorem idxR_end {α : Type} {p : α → Bool} {l : List α} {k : Nat} (hk : l.length ≤ k) (e : idxR p l 0 = idxR p (l.drop k) k) : (-1 : Int) = idxR p l 0 := by
  rw [e, List.drop_of_length_le hk]; rfl

theorem slG_get {α : Type} {R : RecT α} {w : World} {b o n c : Nat} {l : List α} (h : SlG R w (.slice (some ⟨b, o, none⟩) n c) l) {i : Nat} {x : α} (hx : l[i]? = some x) {j : Nat} {u : Value} (hu : (R.enc x)[j]? = some u) : w.cell? ⟨b, o + (i * R.k + j), none⟩ = some u := by
  have hl : 0 < l.length := by have := (List.getElem?_eq_some_iff.1 hx).1; omega
  obtain ⟨b', o', c', e, _, _, hr⟩ := h.open hl
  cases e
  exact hr i x hx j u hu

def IdxPostT (w : World) (x : Int) (e : Ending) (w' : World) : Prop := e = .returned (.int .i64 x) ∧ ∃ d, w' = bw w d
end Go.Proofs.YtmmfkleplbofgaaGreatDoor
/- Tracks and pages in memory: rows of records whose cells hold slices; what lies where ('P' of the blocks). -/
namespace Go.Proofs.YtmmfkleplbofgaaGreatDoor
open Go.RowKit

structure TkW where
  s : ByteArray
  ga : Option Addr
  gn : Nat
  gc : Nat
  da : Option Addr
  dn : Nat
  dc : Nat
  p : Int
  q : Int
  r : Int
def tkR : RecT TkW := { E := 31, S := 24, k := 6, bytes := 88, enc := fun x => [.string x.s, .slice x.ga x.gn x.gc, .slice x.da x.dn x.dc, .int .i64 x.p, .int .i64 x.q, .int .i64 x.r], wf := fun x => x.s.size ≤ 9223372036854775807 ∧ (Lit.int .i64 x.p).wf = true ∧ (Lit.int .i64 x.q).wf = true ∧ (Lit.int .i64 x.r).wf = true }
theorem info_tk : (Tryz.prog.info? 31).map (fun i => (i.zero.map (fun z => z.cells.size), i.size, i.bytes)) = some (some 6, 6, 88) := by kernel_rfl
theorem tkOk : RecOk tkR where
  len _ := rfl
  one x u hu := by
    simp only [tkR, List.mem_cons, List.not_mem_nil, or_false] at hu
    rcases hu with rfl | rfl | rfl | rfl | rfl | rfl <;> rfl
  pos := by decide
  und := Tryz.underlying24
  info := recInfo info_tk
  small := by decide
structure PgW where
  y : Int
  m : Int
  d : Int
  ta : Option Addr
  tn : Nat
  tc : Nat
def pgR : RecT PgW := { E := 26, S := 24, k := 4, bytes := 48, enc := fun x => [.int .i64 x.y, .int .i64 x.m, .int .i64 x.d, .slice x.ta x.tn x.tc], wf := fun x => (Lit.int .i64 x.y).wf = true ∧ (Lit.int .i64 x.m).wf = true ∧ (Lit.int .i64 x.d).wf = true }
theorem info_pg : (Tryz.prog.info? 26).map (fun i => (i.zero.map (fun z => z.cells.size), i.size, i.bytes)) = some (some 4, 4, 48) := by kernel_rfl
/-- A page by value. -/
structure PgV where
  y : Int
  m : Int
  d : Int
  ts : List TrkV
/-- The blocks of a slice that is not empty are such. -/
def Blk (P : Nat → Prop) (v : Value) : Prop := ∀ b o n c, v = .slice (some ⟨b, o, none⟩) n c → 0 < n → P b
def LsP (P : Nat → Prop) (w : World) (v : Value) (l : List Int) : Prop := Sl w v l ∧ Blk P v
structure TkD (P : Nat → Prop) (w : World) (x : TkW) (t : TrkV) : Prop where
  s : x.s = t.s
  g : LsP P w (.slice x.ga x.gn x.gc) t.g
  d : LsP P w (.slice x.da x.dn x.dc) t.d
  p : x.p = t.p
  q : x.q = t.q
  r : x.r = t.r
/-- A slice of tracks that reads so. -/
def TksD (P : Nat → Prop) (w : World) (v : Value) (l : List TrkV) : Prop :=
  ∃ ls, SlG tkR w v ls ∧ Blk P v ∧ ls.length = l.length ∧ ∀ (i : Nat) x t, ls[i]? = some x → l[i]? = some t → TkD P w x t
structure PgD (P : Nat → Prop) (w : World) (x : PgW) (p : PgV) : Prop where
  y : x.y = p.y
  m : x.m = p.m
  d : x.d = p.d
  ts : TksD P w (.slice x.ta x.tn x.tc) p.ts
/-- A slice of pages that reads so. -/
def PgsD (P : Nat → Prop) (w : World) (v : Value) (l : List PgV) : Prop :=
  ∃ ls, SlG pgR w v ls ∧ Blk P v ∧ ls.length = l.length ∧ ∀ (i : Nat) x p, ls[i]? = some x → l[i]? = some p → PgD P w x p

theorem Blk.mono {P Q : Nat → Prop} {v : Value} (h : Blk P v) (hPQ : ∀ b, P b → Q b) : Blk Q v := fun b o n c e hn => hPQ b (h b o n c e hn)
/-- Blocks that are as they were, cells too. -/
theorem cell_keep {w w' : World} {b i : Nat} (h : w'.heap[b]? = w.heap[b]?) : w'.cell? ⟨b, i, none⟩ = w.cell? ⟨b, i, none⟩ := by unfold World.cell?; rw [h]
theorem LsP.keep {P : Nat → Prop} {w w' : World} {v : Value} {l : List Int} (h : LsP P w v l) (hs : w.heap.size ≤ w'.heap.size) (hk : ∀ b, P b → b < w.heap.size → w'.heap[b]? = w.heap[b]?) : LsP P w' v l := by
  refine ⟨?_, h.2⟩
  obtain ⟨a, c, rfl, h2, h3, h4⟩ := h.1
  refine ⟨a, c, rfl, h2, h3, fun hl => ?_⟩
  obtain ⟨b, o, rfl, h5, h6⟩ := h4 hl
  exact ⟨b, o, rfl, Nat.lt_of_lt_of_le h5 hs, fun i hi => (cell_keep (hk b (h.2 b o _ _ rfl (List.length_pos_iff.2 hl)) h5)).trans (h6 i hi)⟩
theorem slG_keep {α : Type} {R : RecT α} {P : Nat → Prop} {w w' : World} {v : Value} {l : List α} (h : SlG R w v l) (hb : Blk P v) (hs : w.heap.size ≤ w'.heap.size) (hk : ∀ b, P b → b < w.heap.size → w'.heap[b]? = w.heap[b]?) : SlG R w' v l := by
  obtain ⟨a, c, rfl, h2, h3, h4⟩ := h
  refine ⟨a, c, rfl, h2, h3, fun hl => ?_⟩
  obtain ⟨b, o, rfl, h5, h6⟩ := h4 hl
  exact ⟨b, o, rfl, Nat.lt_of_lt_of_le h5 hs, fun i x hx j u hu => (cell_keep (hk b (hb b o _ _ rfl (List.length_pos_iff.2 hl)) h5)).trans (h6 i x hx j u hu)⟩
theorem TkD.keep {P : Nat → Prop} {w w' : World} {x : TkW} {t : TrkV} (h : TkD P w x t) (hs : w.heap.size ≤ w'.heap.size) (hk : ∀ b, P b → b < w.heap.size → w'.heap[b]? = w.heap[b]?) : TkD P w' x t :=
  ⟨h.s, h.g.keep hs hk, h.d.keep hs hk, h.p, h.q, h.r⟩
theorem TksD.keep {P : Nat → Prop} {w w' : World} {v : Value} {l : List TrkV} (h : TksD P w v l) (hs : w.heap.size ≤ w'.heap.size) (hk : ∀ b, P b → b < w.heap.size → w'.heap[b]? = w.heap[b]?) : TksD P w' v l := by
  obtain ⟨ls, h1, h2, h3, h4⟩ := h
  exact ⟨ls, slG_keep h1 h2 hs hk, h2, h3, fun i x t hx ht => (h4 i x t hx ht).keep hs hk⟩
theorem PgD.keep {P : Nat → Prop} {w w' : World} {x : PgW} {t : PgV} (h : PgD P w x t) (hs : w.heap.size ≤ w'.heap.size) (hk : ∀ b, P b → b < w.heap.size → w'.heap[b]? = w.heap[b]?) : PgD P w' x t :=
  ⟨h.y, h.m, h.d, h.ts.keep hs hk⟩
theorem PgsD.keep {P : Nat → Prop} {w w' : World} {v : Value} {l : List PgV} (h : PgsD P w v l) (hs : w.heap.size ≤ w'.heap.size) (hk : ∀ b, P b → b < w.heap.size → w'.heap[b]? = w.heap[b]?) : PgsD P w' v l := by
  obtain ⟨ls, h1, h2, h3, h4⟩ := h
  exact ⟨ls, slG_keep h1 h2 hs hk, h2, h3, fun i x t hx ht => (h4 i x t hx ht).keep hs hk⟩
theorem LsP.mono {P Q : Nat → Prop} {w : World} {v : Value} {l : List Int} (h : LsP P w v l) (hPQ : ∀ b, P b → Q b) : LsP Q w v l := ⟨h.1, h.2.mono hPQ⟩
theorem TkD.mono {P Q : Nat → Prop} {w : World} {x : TkW} {t : TrkV} (h : TkD P w x t) (hPQ : ∀ b, P b → Q b) : TkD Q w x t := ⟨h.s, h.g.mono hPQ, h.d.mono hPQ, h.p, h.q, h.r⟩
theorem TksD.mono {P Q : Nat → Prop} {w : World} {v : Value} {l : List TrkV} (h : TksD P w v l) (hPQ : ∀ b, P b → Q b) : TksD Q w v l := by
  obtain ⟨ls, h1, h2, h3, h4⟩ := h
  exact ⟨ls, h1, h2.mono hPQ, h3, fun i x t hx ht => (h4 i x t hx ht).mono hPQ⟩
theorem PgD.mono {P Q : Nat → Prop} {w : World} {x : PgW} {t : PgV} (h : PgD P w x t) (hPQ : ∀ b, P b → Q b) : PgD Q w x t := ⟨h.y, h.m, h.d, h.ts.mono hPQ⟩
theorem PgsD.mono {P Q : Nat → Prop} {w : World} {v : Value} {l : List PgV} (h : PgsD P w v l) (hPQ : ∀ b, P b → Q b) : PgsD Q w v l := by
  obtain ⟨ls, h1, h2, h3, h4⟩ := h
  exact ⟨ls, h1, h2.mono hPQ, h3, fun i x t hx ht => (h4 i x t hx ht).mono hPQ⟩
theorem PgsD.lay {P : Nat → Prop} {w : World} {v : Value} {l : List PgV} (h : PgsD P w v l) (L : List (Obj ⊕ Ext)) : PgsD P (lay w L) v l := h.keep (lay_extends w L).size (fun b _ hb => (lay_extends w L).block b hb)
theorem TksD.lay {P : Nat → Prop} {w : World} {v : Value} {l : List TrkV} (h : TksD P w v l) (L : List (Obj ⊕ Ext)) : TksD P (lay w L) v l := h.keep (lay_extends w L).size (fun b _ hb => (lay_extends w L).block b hb)
theorem TkD.lay {P : Nat → Prop} {w : World} {x : TkW} {t : TrkV} (h : TkD P w x t) (L : List (Obj ⊕ Ext)) : TkD P (lay w L) x t := h.keep (lay_extends w L).size (fun b _ hb => (lay_extends w L).block b hb)
theorem LsP.lay {P : Nat → Prop} {w : World} {v : Value} {l : List Int} (h : LsP P w v l) (L : List (Obj ⊕ Ext)) : LsP P (lay w L) v l := h.keep (lay_extends w L).size (fun b _ hb => (lay_extends w L).block b hb)
/-- The two ways to read a list. -/
theorem Sl.lst {w : World} {v : Value} {l : List Int} (h : Sl w v l) : Lst w v l := by
  obtain ⟨a, c, h1, h2, h3, h4⟩ := h
  exact ⟨a, c, h1, Nat.le_trans h2.1 h2.2, h3, h4⟩
theorem TkD.trk {P : Nat → Prop} {w : World} {x : TkW} {t : TrkV} (h : TkD P w x t) (hw : tkR.wf x) : Trk w (.agg (tkR.enc x).toArray) t := by
  obtain ⟨xs, ga, gn, gc, da, dn, dc, p, q, r⟩ := x
  obtain ⟨h1, h2, h3, h4, h5, h6⟩ := h
  obtain ⟨w1, w2, w3, w4⟩ := hw
  dsimp only at h1 h2 h3 h4 h5 h6 w1 w2 w3 w4
  subst h1 h4 h5 h6
  exact ⟨_, _, rfl, w1, h2.1.lst, h3.1.lst, w2, w3, w4⟩
end Go.Proofs.YtmmfkleplbofgaaGreatDoor
/- A set of strings kept as a map of bools of the call's own. No function of the program. -/
namespace Go.Proofs.YtmmfkleplbofgaaGreatDoor
open Go.RowKit Go.Maps

theorem atKey_fold {H : Type} (u z : DataW H) (k : Lit) : ∀ (acc : List Lit) (m : DataW H), IsMap m → (∀ x ∈ acc, WideAt.IsKeyLit x) →
    (acc.foldl (fun m x => m.put x u) m).atKey k z = if acc.any (fun x => x.sameKey k) = true then u else m.atKey k z
  | [], m, _, _ => rfl
  | x :: acc, m, hm, hk => by
    rw [List.foldl_cons, atKey_fold u z k acc (m.put x u) (hm.put x u) (fun y hy => hk y (List.mem_cons_of_mem _ hy)), List.any_cons]
    have hx := hk x (List.mem_cons_self ..)
    by_cases h : x = k
    · subst h
      rw [WideAt.sameKey_self hx, Bool.true_or, atKey_put_same hm hx]
      split <;> rfl
    · have h' : k ≠ x := fun e => h e.symm
      rw [sameKey_ne h, Bool.false_or, atKey_put_other h']
theorem atKey_setOf {H : Type} (u z : DataW H) (k : Lit) (acc : List Lit) (hk : ∀ x ∈ acc, WideAt.IsKeyLit x) (hz : (DataW.map [] : DataW H).atKey k z = z) : (setOf u acc).atKey k z = if acc.any (fun x => x.sameKey k) = true then u else z := by
  unfold setOf
  rw [atKey_fold u z k acc _ isMap_empty hk, hz]
def keyS (s : ByteArray) : Lit := .string s.data.toList
/-- The set of these names, as a datum. -/
def setS (l : List ByteArray) : DataW Unit := setOf (.lit (.bool true)) (l.map keyS)
theorem keyS_lit (l : List ByteArray) : ∀ x ∈ l.map keyS, WideAt.IsKeyLit x := fun x hx => by
  obtain ⟨s, _, rfl⟩ := List.mem_map.1 hx
  trivial
theorem setS_snoc (l : List ByteArray) (s : ByteArray) : setS (l ++ [s]) = (setS l).put (keyS s) (.lit (.bool true)) := by
  unfold setS
  rw [List.map_append]
  exact setOf_snoc _ _ _
theorem key_same (a b : ByteArray) : (keyS a).sameKey (keyS b) = (a.toList == b.toList) := by
  rw [ByteArray.toList_eq, ByteArray.toList_eq]
  by_cases h : a.data.toList = b.data.toList
  · rw [h, beq_self_eq_true]
    unfold keyS
    rw [h]
    exact WideAt.sameKey_self trivial
  · rw [beq_eq_false_iff_ne.2 h]
    exact sameKey_ne (fun e => h (by unfold keyS at e; injection e))
theorem setS_at (l : List ByteArray) (s : ByteArray) : (setS l).atKey (keyS s) (.lit (.bool false)) = .lit (.bool (l.any fun x => x.toList == s.toList)) := by
  unfold setS
  rw [atKey_setOf _ _ _ _ (keyS_lit l) rfl, List.any_map]
  have : ((fun x => Lit.sameKey x (keyS s)) ∘ keyS) = fun x : ByteArray => x.toList == s.toList := funext fun x => key_same x s
  rw [this]
  cases l.any fun x => x.toList == s.toList <;> rfl
set_option maxRecDepth 100000 in
theorem zero_bool (w : World) : (zeroValue 4).run Tryz.prog w = .ok (.bool false) w := by kernel_rfl
theorem plain_bool_inv {v : Value} {x : Bool} {ps : List MemPlace} (h : plainElem (H := Unit) Tryz.prog 4 v = some (.lit (.bool x), ps)) : v = .bool x := by
  unfold plainElem at h
  have hu := Tryz.underlying4
  generalize Tryz.prog.underlying 4 = U at *
  subst hu
  cases v <;> simp_all
/-- Block b is the set of these names. -/
def OwnS (w : World) (b : Nat) (l : List ByteArray) : Prop := w.ownsMap Tryz.prog 9 (plainElem (H := Unit) Tryz.prog 4) b l.length (setS l)
theorem ownS_new (w : World) : OwnS (w.alloc (.map #[] 0)) w.heap.size [] := World.ownsMap_made _ _ _ _
theorem ownS_on {w : World} {b : Nat} {l : List ByteArray} {A B : List (Obj ⊕ Ext)} (h : OwnS (lay w B) b l) : OwnS (lay w (A ++ B)) b l := by
  have hb := lay_belowG (w := w) (A := A) (B := B)
  exact World.ownsMap.kept (row := none) h ⟨hb.1, hb.2, hb.3, hb.size, fun k hk _ => hb.block k hk⟩ (by simp)
theorem law_str : Keyed Tryz.prog 9 := string_keyed Tryz.underlying9
/-- Is the name in the set? -/
theorem ownS_look {w : World} {b : Nat} {l : List ByteArray} (h : OwnS w b l) (s : ByteArray) (hs : s.size ≤ maxLen) : (Instr.lookup 68 (.map (some b)) (.string s) false).run Tryz.prog w = .ok (.bool (l.any fun x => x.toList == s.toList)) w := by
  obtain ⟨v, ps, hr, hv⟩ := World.ownsMap.lookup h law_str Tryz.underlying68 (zero_bool w) (plainElem_bool Tryz.underlying4 false) (WideMaps.keyOf_string_mk Tryz.underlying9 hs)
  rw [show (Lit.string s.data.toList) = keyS s from rfl, setS_at] at hv
  rw [hr, plain_bool_inv hv]
/-- A name is put in. -/
theorem put_name {ops : Array Oper} {rest : List Oper} {o : Oper} {a : Act} {Q : Exit → Act → World → Prop} (hg : o.guard = none) (m x v : Operand) (hop : o.op = Op.mapUpdate 68 m x v)
    (W0 w : World) (b : Nat) (l : List ByteArray) (s : ByteArray) (hw : Below W0.heap.size W0 w) (hb : W0.heap.size ≤ b) (hm : a.eval m = .map (some b)) (hx : a.eval x = .string s) (hv : a.eval v = .bool true)
    (hown : OwnS w b l) (hs : s.size ≤ maxLen) (hl : l.length ≤ 1000)
    (h : ∀ d, OwnS (Go.Proofs.YtmmfkleplbofgaaGreatDoor.bw W0 d) b (l ++ [s]) → wpList Tryz.prog ops Q rest (a.put o.dst undef) (Go.Proofs.YtmmfkleplbofgaaGreatDoor.bw W0 d)) :
    wpList Tryz.prog ops Q (o :: rest) a w := by
  refine wpList_mapUpdate_own w hg m x v 68 hop 9 4 law_str Tryz.underlying68 _ b l.length (setS l) hm hown (by unfold maxLen; omega) (.string s) (.bool true) (keyS s) hx hv (WideMaps.keyOf_string_mk Tryz.underlying9 hs) _ [] (plainElem_bool Tryz.underlying4 true) ?_
  intro w' h1 h2
  obtain ⟨d, rfl⟩ := bw_of (w := W0) (w' := w') (hw.grown h2 hw.size (fun k hk => by cases hk; exact hb))
  refine h d ?_
  unfold OwnS
  rw [setS_snoc, List.length_append]
  exact h1
end Go.Proofs.YtmmfkleplbofgaaGreatDoor
/- Dates: package calendar's numbers and the reference's. -/
namespace Go.Proofs.YtmmfkleplbofgaaGreatDoor
open Go.RowKit

def leapB (y : Int) : Bool := decide (y % 4 = 0 ∧ (y % 100 ≠ 0 ∨ y % 400 = 0))
/-- The days of a month. -/
def dysI (y m : Int) : Int := if m = 2 then (if leapB y = true then 29 else 28) else if m = 4 ∨ m = 6 ∨ m = 9 ∨ m = 11 then 30 else 31
theorem dysI_bd (y m : Int) : 28 ≤ dysI y m ∧ dysI y m ≤ 31 := by unfold dysI; split <;> (try split) <;> omega
/-- The days before a year. -/
def befI (y : Int) : Int := 365 * (y - 1) + (y - 1) / 4 - (y - 1) / 100 + (y - 1) / 400
theorem befI_bd {y : Int} (h0 : 1 ≤ y) (h1 : y ≤ 9999) : 0 ≤ befI y ∧ befI y ≤ 4000000 := by unfold befI; omega
/-- The days of the months before one. -/
def monI (y : Int) : Nat → Int
  | 0 => 0
  | k + 1 => monI y k + dysI y ((k : Int) + 1)
theorem monI_bd (y : Int) : ∀ k : Nat, 0 ≤ monI y k ∧ monI y k ≤ 31 * (k : Int)
  | 0 => by simp [monI]
  | k + 1 => by
    have := monI_bd y k
    have := dysI_bd y ((k : Int) + 1)
    simp only [monI]; omega
def numI (y m d : Int) : Int := befI y + (d + monI y (m - 1).toNat) - 730119 - 1
def dateB (y m d : Int) : Bool := decide ((1 ≤ y ∧ y ≤ 9999) ∧ (1 ≤ m ∧ m ≤ 12) ∧ 1 ≤ d ∧ d ≤ dysI y m)
theorem dateB_iff {y m d : Int} : dateB y m d = true ↔ (1 ≤ y ∧ y ≤ 9999) ∧ (1 ≤ m ∧ m ≤ 12) ∧ 1 ≤ d ∧ d ≤ dysI y m := by simp [dateB]
theorem bef2000 : befI 2000 = 730119 := by decide
theorem tm_eq {y c : Int} (h : 0 ≤ y) : y.tmod c = y % c := Int.tmod_eq_emod_of_nonneg h
theorem td_eq {y c : Int} (h : 0 ≤ y) : y.tdiv c = y / c := Int.tdiv_eq_ediv_of_nonneg h
theorem leap_ways {y : Int} : (leapB y = true ∧ y % 4 = 0 ∧ (y % 100 != 0) = true ∧ (y % 100 == 0) = false) ∨ (leapB y = true ∧ y % 4 = 0 ∧ y % 100 = 0 ∧ y % 400 = 0) ∨
    (leapB y = false ∧ y % 4 = 0 ∧ y % 100 = 0 ∧ (y % 400 == 0) = false) ∨ (leapB y = false ∧ (y % 4 == 0) = false ∧ (y % 400 == 0) = false) := by
  unfold leapB
  simp only [decide_eq_true_eq, decide_eq_false_iff_not, beq_eq_false_iff_ne, bne_iff_ne, ne_eq]
  omega
set_option maxHeartbeats 400000 in
theorem cal_Leap (y : Int) (w : World) (h0 : 0 ≤ y) :
    Calls Tryz.prog 92 #[.int .i64 y] w fun e w' => e = .returned (.bool (leapB y)) ∧ w' = w := by
  obtain ⟨A, eA⟩ : ∃ A, y % 4 = A := ⟨_, rfl⟩
  obtain ⟨B, eB⟩ : ∃ B, y % 100 = B := ⟨_, rfl⟩
  obtain ⟨C, eC⟩ : ∃ C, y % 400 = C := ⟨_, rfl⟩
  have e1 : y.tmod 4 = A := (tm_eq h0).trans eA
  have e2 : y.tmod 100 = B := (tm_eq h0).trans eB
  have e3 : y.tmod 400 = C := (tm_eq h0).trans eC
  have hw := leap_ways (y := y)
  rw [eA, eB, eC] at hw
  clear eA eB eC h0
  rcases hw with ⟨h, rfl, b2, b⟩ | ⟨h, rfl, rfl, rfl⟩ | ⟨h, rfl, rfl, c⟩ | ⟨h, a, c⟩
  all_goals
    rw [h]
    clear h
    go_enter Tryz.func92, Tryz.ntmps92
    go_wp2_with fail
    go_ret
    exact ⟨rfl, rfl⟩
set_option maxHeartbeats 400000 in
theorem ref09_Leap (y : Int) (w : World) (h0 : 0 ≤ y) :
    Calls Tryz.prog 59 #[.int .i64 y] w fun e w' => e = .returned (.bool (leapB y)) ∧ w' = w := by
  obtain ⟨A, eA⟩ : ∃ A, y % 4 = A := ⟨_, rfl⟩
  obtain ⟨B, eB⟩ : ∃ B, y % 100 = B := ⟨_, rfl⟩
  obtain ⟨C, eC⟩ : ∃ C, y % 400 = C := ⟨_, rfl⟩
  have e1 : y.tmod 4 = A := (tm_eq h0).trans eA
  have e2 : y.tmod 100 = B := (tm_eq h0).trans eB
  have e3 : y.tmod 400 = C := (tm_eq h0).trans eC
  have hw := leap_ways (y := y)
  rw [eA, eB, eC] at hw
  clear eA eB eC h0
  rcases hw with ⟨h, rfl, b2, b⟩ | ⟨h, rfl, rfl, rfl⟩ | ⟨h, rfl, rfl, c⟩ | ⟨h, a, c⟩
  all_goals
    rw [h]
    clear h
    go_enter Tryz.func59, Tryz.ntmps59
    go_wp2_with fail
    go_ret
    exact ⟨rfl, rfl⟩
def lenA : Array Value := #[.int .i64 31, .int .i64 28, .int .i64 31, .int .i64 30, .int .i64 31, .int .i64 30, .int .i64 31, .int .i64 31, .int .i64 30, .int .i64 31, .int .i64 30, .int .i64 31]
set_option maxRecDepth 100000
theorem ix_0 (w : World) : (Instr.index 103 (.agg lenA) (.int .i64 0)).run Tryz.prog w = .ok (.int .i64 31) w := by kernel_rfl
theorem ix_1 (w : World) : (Instr.index 103 (.agg lenA) (.int .i64 1)).run Tryz.prog w = .ok (.int .i64 28) w := by kernel_rfl
theorem ix_2 (w : World) : (Instr.index 103 (.agg lenA) (.int .i64 2)).run Tryz.prog w = .ok (.int .i64 31) w := by kernel_rfl
theorem ix_3 (w : World) : (Instr.index 103 (.agg lenA) (.int .i64 3)).run Tryz.prog w = .ok (.int .i64 30) w := by kernel_rfl
theorem ix_4 (w : World) : (Instr.index 103 (.agg lenA) (.int .i64 4)).run Tryz.prog w = .ok (.int .i64 31) w := by kernel_rfl
theorem ix_5 (w : World) : (Instr.index 103 (.agg lenA) (.int .i64 5)).run Tryz.prog w = .ok (.int .i64 30) w := by kernel_rfl
theorem ix_6 (w : World) : (Instr.index 103 (.agg lenA) (.int .i64 6)).run Tryz.prog w = .ok (.int .i64 31) w := by kernel_rfl
theorem ix_7 (w : World) : (Instr.index 103 (.agg lenA) (.int .i64 7)).run Tryz.prog w = .ok (.int .i64 31) w := by kernel_rfl
theorem ix_8 (w : World) : (Instr.index 103 (.agg lenA) (.int .i64 8)).run Tryz.prog w = .ok (.int .i64 30) w := by kernel_rfl
theorem ix_9 (w : World) : (Instr.index 103 (.agg lenA) (.int .i64 9)).run Tryz.prog w = .ok (.int .i64 31) w := by kernel_rfl
theorem ix_10 (w : World) : (Instr.index 103 (.agg lenA) (.int .i64 10)).run Tryz.prog w = .ok (.int .i64 30) w := by kernel_rfl
theorem ix_11 (w : World) : (Instr.index 103 (.agg lenA) (.int .i64 11)).run Tryz.prog w = .ok (.int .i64 31) w := by kernel_rfl
set_option maxRecDepth 512
set_option maxHeartbeats 400000 in
theorem cal_lengths (w : World) :
    Calls Tryz.prog 93 #[] w fun e w' => e = .returned (.agg lenA) ∧ ∃ d, w' = bw w d := by
  refine lay_start ?_
  unfold lenA
  go_enter Tryz.func93, Tryz.ntmps93
  go_wp2
  exact bodyPost_ret (v := .agg #[.int .i64 31, .int .i64 28, .int .i64 31, .int .i64 30, .int .i64 31, .int .i64 30, .int .i64 31, .int .i64 31, .int .i64 30, .int .i64 31, .int .i64 30, .int .i64 31]) (by simp [results, Tryz.results93, go_sem]) rfl ⟨rfl, lay_ex _ _⟩
theorem mon12 {m : Int} (h0 : 1 ≤ m) (h1 : m ≤ 12) : m = 1 ∨ m = 2 ∨ m = 3 ∨ m = 4 ∨ m = 5 ∨ m = 6 ∨ m = 7 ∨ m = 8 ∨ m = 9 ∨ m = 10 ∨ m = 11 ∨ m = 12 := by omega
set_option maxHeartbeats 1000000 in
set_option maxRecDepth 100000 in
theorem cal_days (y m : Int) (w : World) (hy : 0 ≤ y) (h0 : 1 ≤ m) (h1 : m ≤ 12) :
    Calls Tryz.prog 72 #[.int .i64 y, .int .i64 m] w fun e w' => e = .returned (.int .i64 (dysI y m)) ∧ ∃ d, w' = bw w d := by
  have HL := Lib.hid (fun W => cal_Leap y W hy)
  unfold dysI
  generalize leapB y = b at *
  clear hy
  rcases mon12 h0 h1 with rfl | rfl | rfl | rfl | rfl | rfl | rfl | rfl | rfl | rfl | rfl | rfl
  all_goals cases b
  all_goals
    clear h0 h1
    have ix0 := ix_0
    have ix1 := ix_1
    have ix2 := ix_2
    have ix3 := ix_3
    have ix4 := ix_4
    have ix5 := ix_5
    have ix6 := ix_6
    have ix7 := ix_7
    have ix8 := ix_8
    have ix9 := ix_9
    have ixA := ix_10
    have ixB := ix_11
    refine lay_start ?_
    go_enter Tryz.func72, Tryz.ntmps72
    go_wp2_with (first | (go_at_call 92; refine (HL.out _).mono ?_; rintro e w' ⟨rfl, rfl⟩) | (go_at_call 93; refine (cal_lengths _).mono ?_; rintro e w' ⟨rfl, d, rfl⟩))
    go_ret
    first | exact ⟨rfl, lay_ex _ _⟩ | exact ⟨rfl, noExt _, (bw_noExt _).symm⟩ | exact ⟨rfl, _, rfl⟩
set_option maxHeartbeats 1000000 in
set_option maxRecDepth 100000 in
theorem ref09_Days (y m : Int) (w : World) (hy : 0 ≤ y) (h0 : 1 ≤ m) (h1 : m ≤ 12) :
    Calls Tryz.prog 38 #[.int .i64 y, .int .i64 m] w fun e w' => e = .returned (.int .i64 (dysI y m)) ∧ ∃ d, w' = bw w d := by
  have HL := Lib.hid (fun W => ref09_Leap y W hy)
  unfold dysI
  generalize leapB y = b at *
  clear hy
  rcases mon12 h0 h1 with rfl | rfl | rfl | rfl | rfl | rfl | rfl | rfl | rfl | rfl | rfl | rfl
  all_goals cases b
  all_goals
    clear h0 h1
    refine lay_start ?_
    go_enter Tryz.func38, Tryz.ntmps38
    go_wp2_with (first | (go_at_call 59; refine (HL.out _).mono ?_; rintro e w' ⟨rfl, rfl⟩))
    go_ret
    first | exact ⟨rfl, lay_ex _ _⟩ | exact ⟨rfl, noExt _, (bw_noExt _).symm⟩ | exact ⟨rfl, _, rfl⟩
set_option maxHeartbeats 1000000 in
theorem cal_before (y : Int) (w : World) (h0 : 1 ≤ y) (h1 : y ≤ 9999) :
    Calls Tryz.prog 73 #[.int .i64 y] w fun e w' => e = .returned (.int .i64 (befI y)) ∧ w' = w := by
  have e1 := td_eq (y := y - 1) (c := 4) (by omega)
  have e2 := td_eq (y := y - 1) (c := 100) (by omega)
  have e3 := td_eq (y := y - 1) (c := 400) (by omega)
  unfold befI
  rw [← e1, ← e2, ← e3]
  have b1 : 0 ≤ (y - 1).tdiv 4 ∧ (y - 1).tdiv 4 ≤ 10000 := by omega
  have b2 : 0 ≤ (y - 1).tdiv 100 ∧ (y - 1).tdiv 100 ≤ 10000 := by omega
  have b3 : 0 ≤ (y - 1).tdiv 400 ∧ (y - 1).tdiv 400 ≤ 10000 := by omega
  clear e1 e2 e3
  go_enter Tryz.func73, Tryz.ntmps73
  go_wp2_with fail
  go_ret
  exact ⟨ret_int (by omega), rfl⟩
set_option maxHeartbeats 1000000 in
theorem ref09_before (y : Int) (w : World) (h0 : 1 ≤ y) (h1 : y ≤ 9999) :
    Calls Tryz.prog 39 #[.int .i64 y] w fun e w' => e = .returned (.int .i64 (befI y)) ∧ w' = w := by
  have e1 := td_eq (y := y - 1) (c := 4) (by omega)
  have e2 := td_eq (y := y - 1) (c := 100) (by omega)
  have e3 := td_eq (y := y - 1) (c := 400) (by omega)
  unfold befI
  rw [← e1, ← e2, ← e3]
  have b1 : 0 ≤ (y - 1).tdiv 4 ∧ (y - 1).tdiv 4 ≤ 10000 := by omega
  have b2 : 0 ≤ (y - 1).tdiv 100 ∧ (y - 1).tdiv 100 ≤ 10000 := by omega
  have b3 : 0 ≤ (y - 1).tdiv 400 ∧ (y - 1).tdiv 400 ≤ 10000 := by omega
  clear e1 e2 e3
  go_enter Tryz.func39, Tryz.ntmps39
  go_wp2_with fail
  go_ret
  exact ⟨ret_int (by omega), rfl⟩
end Go.Proofs.YtmmfkleplbofgaaGreatDoor
