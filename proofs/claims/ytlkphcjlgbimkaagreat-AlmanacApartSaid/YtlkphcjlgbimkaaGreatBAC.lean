/- Contracts and plain laws, several texts in one: Sta1; Opn; APlain; Sl -/
import Derived.Test.YtlkphcjlgbimkaaGreatProg
import Derived.WalkKit
import Derived.WalkSpells
import Derived.WalkLawsBesides
import Derived.Lib.Hide
import Derived.BigQuiet
import Derived.Shelf.Abstract
import Derived.Deep.Slices
import Derived.Deep.Fields
import Derived.ChangeSame
import Derived.WideShapes
import Derived.ChangeShapes
import Derived.Lib.SmallJoins
import Derived.Deep.AppendLies
import Derived.Laws.OwnMore
import Derived.Test.YtlkphcjlgbimkaaGreatBAA
import Derived.Test.YtlkphcjlgbimkaaGreatBAB
/- Stars as records: lists of stars that read; slices.IndexFunc and ContainsFunc over them; a star's numbers; the index of a name; valid catalogues. -/
namespace Go.Proofs.YtlkphcjlgbimkaaGreat
open Go.RowKit

structure StarV where
  s : ByteArray
  sha : Int
  dec : Int
  mag : Int
def stR : RecT StarV := { E := 70, S := 23, k := 4, bytes := 40, enc := fun x => [.string x.s, .int .i64 x.sha, .int .i64 x.dec, .int .i64 x.mag], wf := fun x => x.s.size ≤ 9223372036854775807 ∧ (Lit.int .i64 x.sha).wf = true ∧ (Lit.int .i64 x.dec).wf = true ∧ (Lit.int .i64 x.mag).wf = true }
theorem info_st : (Tryz.prog.info? 70).map (fun i => (i.zero.map (fun z => z.cells.size), i.size, i.bytes)) = some (some 4, 4, 40) := by kernel_rfl
theorem recInfo {E : TypeId} {k b : Nat} (h : (Tryz.prog.info? E).map (fun i => (i.zero.map (fun z => z.cells.size), i.size, i.bytes)) = some (some k, k, b)) : ∃ i z, Tryz.prog.info? E = some i ∧ i.zero = some z ∧ i.size = k ∧ i.bytes = b ∧ z.cells.size = k := by
  cases hi : Tryz.prog.info? E with
  | none => rw [hi] at h; cases h
  | some i =>
    rw [hi] at h
    simp only [Option.map_some, Option.some.injEq, Prod.mk.injEq] at h
    obtain ⟨h1, h2, h3⟩ := h
    cases hz : i.zero with
    | none => rw [hz] at h1; cases h1
    | some z =>
      rw [hz] at h1
      simp only [Option.map_some, Option.some.injEq] at h1
      exact ⟨i, z, rfl, hz, h2, h3, h1⟩
theorem stOk : RecOk stR where
  len _ := rfl
  one x u hu := by
    simp only [stR, List.mem_cons, List.not_mem_nil, or_false] at hu
    rcases hu with rfl | rfl | rfl | rfl <;> rfl
  pos := by decide
  und := Tryz.underlying23
  info := recInfo info_st
  small := by decide
theorem slG_get {α : Type} {R : RecT α} {w : World} {b o n c : Nat} {l : List α} (h : SlG R w (.slice (some ⟨b, o, none⟩) n c) l) {i : Nat} {x : α} (hx : l[i]? = some x) {j : Nat} {u : Value} (hu : (R.enc x)[j]? = some u) : w.cell? ⟨b, o + (i * R.k + j), none⟩ = some u := by
  have hl : 0 < l.length := by have := (List.getElem?_eq_some_iff.1 hx).1; omega
  obtain ⟨b', o', c', e, _, _, hr⟩ := h.open hl
  cases e
  exact hr i x hx j u hu

/-- The first place from which a list's rest begins with one that p holds of, or -1. -/
def idxR {α : Type} (p : α → Bool) : List α → Nat → Int
  | [], _ => -1
  | x :: l, k => if p x then (k : Int) else idxR p l (k + 1)
theorem idxR_bd {α : Type} (p : α → Bool) : ∀ (l : List α) (k : Nat), idxR p l k = -1 ∨ ((k : Int) ≤ idxR p l k ∧ idxR p l k < (k : Int) + l.length)
  | [], _ => .inl rfl
  | x :: l, k => by
    unfold idxR
    split
    · right; simp only [List.length_cons]; omega
    · rcases idxR_bd p l (k + 1) with h | h
      · exact .inl h
      · right; simp only [List.length_cons]; omega
theorem idxR_any {α : Type} (p : α → Bool) : ∀ (l : List α) (k : Nat), decide (0 ≤ idxR p l k) = l.any p
  | [], _ => rfl
  | x :: l, k => by
    unfold idxR
    rw [List.any_cons, ← idxR_any p l (k + 1)]
    cases p x
    · simp
    · simp
theorem idxR_miss {α : Type} {p : α → Bool} {l : List α} {k : Nat} {x : α} (hx : l[k]? = some x) (h : p x = false) (e : idxR p l 0 = idxR p (l.drop k) k) : idxR p l 0 = idxR p (l.drop (k + 1)) (k + 1) := by
  obtain ⟨hk, rfl⟩ := List.getElem?_eq_some_iff.1 hx
  rw [e, List.drop_eq_getElem_cons hk]
  show (if p l[k] then (k : Int) else _) = _
  rw [h]; rfl
theorem idxR_got {α : Type} {p : α → Bool} {l : List α} {k : Nat} {x : α} (hx : l[k]? = some x) (h : p x = true) (e : idxR p l 0 = idxR p (l.drop k) k) : (k : Int) = idxR p l 0 := by
  obtain ⟨hk, rfl⟩ := List.getElem?_eq_some_iff.1 hx
  rw [e, List.drop_eq_getElem_cons hk]
  show _ = (if p l[k] then (k : Int) else _)
  rw [h]; rfl
theorem idxR_end {α : Type} {p : α → Bool} {l : List α} {k : Nat} (hk : l.length ≤ k) (e : idxR p l 0 = idxR p (l.drop k) k) : (-1 : Int) = idxR p l 0 := by
  rw [e, List.drop_of_length_le hk]; rfl

def IdxPost (w : World) (x : Int) (e : Ending) (w' : World) : Prop := e = .returned (.int .i64 x) ∧ ∃ d, w' = bw w d
set_option maxHeartbeats 1000000 in
theorem st_IndexFunc (g : FuncId) (lb : List Value) (p : StarV → Bool) (v : Value) (l : List StarV) (w : World) (hv : SlG stR w v l)
    (eI : ∀ args w, (callFunc g args).run Tryz.prog w = .ok (.enter g args) w)
    (hf : ∀ x ∈ l, ∀ d, Calls Tryz.prog g (.agg (stR.enc x).toArray :: lb).toArray (bw w d) fun e w' => e = .returned (.bool (p x)) ∧ ∃ d, w' = bw w d) :
    Calls Tryz.prog 61 #[v, .func (.func g) #[] lb.toArray] w (IdxPost w (idxR p l 0)) := by
  by_cases hz : l = []
  · subst hz
    obtain ⟨a, cap, rfl⟩ := hv.form
    clear hf
    refine lay_start ?_
    go_enter Tryz.func61, Tryz.ntmps61
    go_wp2_with fail
    refine wp_loop_rounds 1 ?_
    rw [rounds_succ]
    go_wp2
    go_ret
    exact ⟨rfl, lay_ex _ _⟩
  · obtain ⟨b, o, cap, rfl, hc, hb, hr⟩ := hv.open (List.length_pos_iff.2 hz)
    obtain ⟨m, hm⟩ : ∃ m, l.length = m := ⟨_, rfl⟩
    have HF := Lib.hid hf
    have HM := Lib.hid hm
    rw [hm] at hc ⊢
    have HR : Hid (∀ i x, l[i]? = some x → w.cell? ⟨b, o + i * 4, none⟩ = some (.string x.s) ∧ w.cell? ⟨b, o + i * 4 + 1, none⟩ = some (.int .i64 x.sha) ∧ w.cell? ⟨b, o + i * 4 + 2, none⟩ = some (.int .i64 x.dec) ∧ w.cell? ⟨b, o + i * 4 + 3, none⟩ = some (.int .i64 x.mag)) :=
      Lib.hid (fun i x hx => ⟨hr i x hx 0 _ rfl, hr i x hx 1 _ rfl, hr i x hx 2 _ rfl, hr i x hx 3 _ rfl⟩)
    clear hf hz hm hr hv
    refine lay_start ?_
    go_enter Tryz.func61, Tryz.ntmps61
    go_wp2_with fail
    go_loopw [8] (fun i wr => ∃ (k : Nat) (d : Ext), k ≤ m ∧ i = .int .i64 k ∧ wr = lay w [.inr d] ∧ idxR p l 0 = idxR p (l.drop k) k) (fun i _ => m - (intOf i).toNat)
    case atStart => exact ⟨0, noExt _, Nat.zero_le _, rfl, (bw_noExt _).symm, rfl⟩
    case round =>
      obtain ⟨k, d, hk, rfl, rfl, hA⟩ := hrel
      have HA := Lib.hid hA
      clear hA
      by_cases hlt : k < m
      · obtain ⟨x, hx⟩ : ∃ x, l[k]? = some x := ⟨_, List.getElem?_eq_getElem (by rw [HM.out]; exact hlt)⟩
        obtain ⟨e0, e1, e2, e3⟩ := HR.out k x hx
        have H1 : Hid (Calls Tryz.prog g (.agg #[.string x.s, .int .i64 x.sha, .int .i64 x.dec, .int .i64 x.mag] :: lb).toArray (lay w [.inr d]) fun e w' => e = .returned (.bool (p x)) ∧ ∃ d, w' = bw w d) := Lib.hid (HF.out x (List.mem_of_getElem? hx) d)
        cases ho : p x
        · have HN := Lib.hid (idxR_miss hx ho HA.out)
          rw [ho] at H1
          clear ho hx
          obtain ⟨xs, x1, x2, x3⟩ := x
          dsimp only at e0 e1 e2 e3 H1
          go_wp2_with (refine H1.out.mono ?_; rintro e w' ⟨rfl, d1, rfl⟩)
          go_roundw
          case rel => exact ⟨k + 1, d1, by omega, by go_num, rfl, HN.out⟩
          case measure => simp [intOf]; omega
        · have HN := Lib.hid (idxR_got hx ho HA.out)
          rw [ho] at H1
          clear ho hx
          obtain ⟨xs, x1, x2, x3⟩ := x
          dsimp only at e0 e1 e2 e3 H1
          go_wp2_with (refine H1.out.mono ?_; rintro e w' ⟨rfl, d1, rfl⟩)
          go_ret
          exact ⟨ret_int HN.out, d1, rfl⟩
      · have HN := Lib.hid (idxR_end (k := k) (by rw [HM.out]; omega) HA.out)
        go_wp2
        go_ret
        exact ⟨ret_int HN.out, lay_ex _ _⟩
end Go.Proofs.YtlkphcjlgbimkaaGreat
/- Opening rows of records off an argument: a slice reads as a list of records, each with what its cells say. -/
namespace Go.Proofs.YtlkphcjlgbimkaaGreat
open Go.RowKit

theorem addO_block (a : Addr) (n : Nat) : (a.add n).block = a.block := by
  unfold Addr.add; split <;> rfl
theorem addO_none {a : Addr} (h : a.spot = none) (n : Nat) : a.add n = ⟨a.block, a.off + n, none⟩ := by
  unfold Addr.add
  split
  · rename_i h0
    have : n = 0 := by simpa using h0
    subst this
    cases a; simp_all
  · rfl
section
variable {H : Type} {enc : TypeId × Value → H} {α : Type} {R : RecT α} {P : Program}
/-- A slice of records off its reading: what 'hel' says of an element's cells holds of each record. -/
theorem slG_of (hR : RecOk R) (ht : P.underlying R.S = some (.slice R.E)) (hC : P.cellsOf R.E = R.k) {w : World} {Q : α → Prop} {fuel : Nat} {v : Value} {x : DataW H × List MemPlace}
    (hel : ∀ n cs y, DataW.trod enc P w 0 (fun _ => true) true n R.E cs = some y → cs.length = R.k → ∃ z, cs = R.enc z ∧ R.wf z ∧ Q z)
    (hf : DataW.trod enc P w 0 (fun _ => true) true fuel R.S [v] = some x) : ∃ l, SlG R w v l ∧ ∀ z ∈ l, Q z := by
  have hM : maxLen = 9223372036854775807 := by decide
  rcases Go.Deep.open_slice ht hf with ⟨hcs, _⟩ | ⟨a', len', cap', m, n, D, Pl, hcs, hb, hl, hm, hmm, hx, hel'⟩
  · obtain rfl : v = .slice none 0 0 := by simpa using hcs
    exact ⟨[], SlG.nil R w, fun z hz => absurd hz List.not_mem_nil⟩
  · obtain rfl : v = .slice (some a') len' cap' := by simpa using hcs
    simp only [if_true] at hmm
    subst hmm
    have hex : ∀ i : Nat, i < m → ∃ z : α, R.wf z ∧ Q z ∧ (∀ (j : Nat) u, (R.enc z)[j]? = some u → w.cell? ((a'.add (i * R.k)).add j) = some u) ∧ ((a'.add (i * R.k)).block < w.heap.size) := fun i him => by
      obtain ⟨cs', hc', ht'⟩ := hel' i him
      rw [hC] at hc'
      have hblk := World.cells?_block hc' hR.pos
      obtain ⟨_, hcl, hat⟩ := World.cells?_some hc'
      obtain ⟨z, rfl, hz, hq⟩ := hel _ _ _ ht' hcl
      refine ⟨z, hz, hq, fun j u hu => ?_, hblk⟩
      have hj : j < R.k := by rw [← hcl]; exact (List.getElem?_eq_some_iff.1 hu).1
      rw [hat j hj, hu]
    by_cases hz : len' = 0
    · subst hz
      exact ⟨[], slG_none (by omega), fun z hz => absurd hz List.not_mem_nil⟩
    · obtain ⟨z0, _, _, h0, hb0⟩ := hex 0 (by omega)
      have hspot : a'.spot = none := by
        have hlen := hR.len z0
        have hp := hR.pos
        obtain ⟨u, hu⟩ : ∃ u, (R.enc z0)[0]? = some u := ⟨_, List.getElem?_eq_getElem (by omega)⟩
        have := h0 0 u hu
        unfold World.cell? at this
        cases hs : a'.spot
        · rfl
        · simp [Addr.add, hs] at this
          try (split at this <;> simp at this)
      have hbl : a'.block < w.heap.size := by simpa [addO_block] using hb0
      have : Nonempty α := ⟨z0⟩
      have hch : ∃ f : Nat → α, ∀ i, i < len' → R.wf (f i) ∧ Q (f i) ∧ ∀ (j : Nat) u, (R.enc (f i))[j]? = some u → w.cell? ⟨a'.block, a'.off + (i * R.k + j), none⟩ = some u := by
        have : ∀ i, ∃ z : α, i < len' → R.wf z ∧ Q z ∧ ∀ (j : Nat) u, (R.enc z)[j]? = some u → w.cell? ⟨a'.block, a'.off + (i * R.k + j), none⟩ = some u := fun i => by
          by_cases hi : i < len'
          · obtain ⟨z, k1, k2, k3, _⟩ := hex i (by omega)
            refine ⟨z, fun _ => ⟨k1, k2, fun j u hu => ?_⟩⟩
            have := k3 j u hu
            rw [addO_none hspot, addO_none (by rfl)] at this
            simpa [Nat.add_assoc] using this
          · exact ⟨z0, fun h => absurd h hi⟩
        exact ⟨fun i => Classical.choose (this i), fun i hi => Classical.choose_spec (this i) hi⟩
      obtain ⟨f, hF⟩ := hch
      have hlen : ((List.range len').map f).length = len' := by simp
      refine ⟨(List.range len').map f, ⟨some a', m, by rw [hlen], by rw [hlen]; omega, fun z hz => ?_, fun _ => ⟨a'.block, a'.off, by cases a'; simp_all, hbl, fun i z hz j u hu => ?_⟩⟩, fun z hz => ?_⟩
      · obtain ⟨i, hi, rfl⟩ := List.mem_map.1 hz
        exact (hF i (List.mem_range.1 hi)).1
      · have hi : i < len' := by have := (List.getElem?_eq_some_iff.1 hz).1; simpa using this
        have : z = f i := by
          rw [List.getElem?_map, List.getElem?_range hi] at hz
          simpa using hz.symm
        subst this
        exact (hF i hi).2.2 j u hu
      · obtain ⟨i, hi, rfl⟩ := List.mem_map.1 hz
        exact (hF i (List.mem_range.1 hi)).2.1
/-- A slice of records off an argument. -/
theorem slG_arg (hR : RecOk R) (ht : P.underlying R.S = some (.slice R.E)) (hC : P.cellsOf R.E = R.k) {w : World} {r : Reach} {b0 : Nat} {Q : α → Prop} {v : Value} {d : DataW H} {ps : List MemPlace}
    (hel : ∀ n cs y, DataW.trod enc P w 0 (fun _ => true) true n R.E cs = some y → cs.length = R.k → ∃ z, cs = R.enc z ∧ R.wf z ∧ Q z)
    (hv : Value.okWide P w r b0 R.S v) (h : DataW.Trod enc P w 0 (fun _ => true) true R.S v d ps) : ∃ l, SlG R w v l ∧ ∀ z ∈ l, Q z := by
  obtain ⟨a, len, cap, rfl⟩ := Go.WideShapes.okWide_slice ht hv
  obtain ⟨fuel, hf⟩ := h
  exact slG_of hR ht hC hel (by simpa [Value.cells] using hf)

open Go.ChangeShapes Go.WideShapes Go.Deep in
theorem st_elem {w : World} {t ts ti : TypeId} {f0 f1 f2 f3 : Field} (hs : P.underlying t = some (.struct #[f0, f1, f2, f3])) (hone : oneCellFields P #[f0, f1, f2, f3] = true)
    (ht : f0.type = ts ∧ f1.type = ti ∧ f2.type = ti ∧ f3.type = ti) (hS : P.underlying ts = some .string) (hI : P.underlying ti = some (.int .i64))
    (n : Nat) (cs : List Value) (y : DataW H × List MemPlace) (hf : DataW.trod enc P w 0 (fun _ => true) true n t cs = some y) (hl : cs.length = 4) : ∃ z, cs = stR.enc z ∧ stR.wf z ∧ True := by
  match cs, hl with
  | [c0, c1, c2, c3], _ =>
    obtain ⟨xs, m, _, hx, _, hlen, hg⟩ := DataW.trod_struct hs hf
    obtain ⟨o0, k0⟩ := hone_of hone 0 f0 rfl
    obtain ⟨o1, k1⟩ := hone_of hone 1 f1 rfl
    obtain ⟨o2, k2⟩ := hone_of hone 2 f2 rfl
    obtain ⟨o3, k3⟩ := hone_of hone 3 f3 rfl
    match xs, hlen with
    | [y0, y1, y2, y3], _ =>
      have e0 : DataW.trod enc P w 0 (fun _ => true) true m f0.type [c0] = some y0 := by simpa [Value.cells, o0, k0] using hg 0 f0 rfl
      have e1 : DataW.trod enc P w 0 (fun _ => true) true m f1.type [c1] = some y1 := by simpa [Value.cells, o1, k1] using hg 1 f1 rfl
      have e2 : DataW.trod enc P w 0 (fun _ => true) true m f2.type [c2] = some y2 := by simpa [Value.cells, o2, k2] using hg 2 f2 rfl
      have e3 : DataW.trod enc P w 0 (fun _ => true) true m f3.type [c3] = some y3 := by simpa [Value.cells, o3, k3] using hg 3 f3 rfl
      obtain ⟨t0, t1, t2, t3⟩ := ht
      rw [t0] at e0; rw [t1] at e1; rw [t2] at e2; rw [t3] at e3
      obtain ⟨s, q0, _, ws⟩ := DataW.trod_string hS e0
      obtain ⟨x1, q1, _, w1⟩ := DataW.trod_int hI e1
      obtain ⟨x2, q2, _, w2⟩ := DataW.trod_int hI e2
      obtain ⟨x3, q3, _, w3⟩ := DataW.trod_int hI e3
      simp only [List.cons.injEq, and_true] at q0 q1 q2 q3
      subst q0 q1 q2 q3
      exact ⟨⟨s, x1, x2, x3⟩, rfl, ⟨ws, w1, w2, w3⟩, trivial⟩
end
set_option maxRecDepth 100000 in
/-- Stars off an argument. -/
theorem st_arg {H : Type} {enc : TypeId × Value → H} {w : World} {r : Reach} {b0 : Nat} {v : Value} {d : DataW H} {ps : List MemPlace} (hv : Value.okWide Tryz.prog w r b0 23 v) (h : DataW.Trod enc Tryz.prog w 0 (fun _ => true) true 23 v d ps) : ∃ l, SlG stR w v l := by
  have hC : Tryz.prog.cellsOf stR.E = stR.k := by kernel_rfl
  have hel : ∀ n cs y, DataW.trod enc Tryz.prog w 0 (fun _ => true) true n stR.E cs = some y → cs.length = stR.k → ∃ z, cs = stR.enc z ∧ stR.wf z ∧ True :=
    fun n cs y => st_elem (ts := 9) (ti := 3) Tryz.underlying70 (by kernel_rfl) ⟨rfl, rfl, rfl, rfl⟩ Tryz.underlying9 Tryz.underlying3 n cs y
  obtain ⟨l, hl, _⟩ := slG_arg (Q := fun _ => True) stOk stOk.und hC hel hv h
  exact ⟨l, hl⟩
end Go.Proofs.YtlkphcjlgbimkaaGreat
/- Audit, the plain law: steps, differences, possible lists, repairs. No program in sight. -/
namespace Go.Proofs.YtlkphcjlgbimkaaGreat
open Go.RowKit

def nth (g : List Int) (i : Nat) : Int := g.getD i 0
theorem nth_set (l : List Int) (at_ : Nat) (v : Int) (h : at_ < l.length) (i : Nat) : nth (l.set at_ v) i = if i = at_ then v else nth l i := by
  unfold nth
  by_cases e : i = at_
  · subst e; rw [if_pos rfl]; simp [List.getD, h]
  · rw [if_neg e]
    simp only [List.getD]
    rw [List.getElem?_set_ne (fun h => e h.symm)]
def frm (wr : Bool) (n : Int) : Int := if wr then n % 216000 else n
def stp (wr : Bool) (l : List Int) (i : Nat) : Int := frm wr (nth l (i + 1) - nth l i)
/-- The difference of the order 2 with a centre. -/
def sec (wr : Bool) (l : List Int) (i : Nat) : Int := stp wr l i - stp wr l (i - 1)
def badB (bend d : Int) : Bool := decide (bend + 2 < d ∨ d < -bend - 2)
theorem badB_f {bend d : Int} : badB bend d = false ↔ -(bend + 2) ≤ d ∧ d ≤ bend + 2 := by simp [badB]; omega
/-- The centres of bad differences from one up to before another one. -/
def badN (wr : Bool) (l : List Int) (bend : Int) (lo hi : Nat) : List Nat := (List.range' lo (hi - lo)).filter fun i => badB bend (sec wr l i)
def badL (wr : Bool) (l : List Int) (bend : Int) (lo hi : Nat) : List Int := (badN wr l bend lo hi).map Int.ofNat
theorem mem_badN {wr : Bool} {l : List Int} {bend : Int} {lo hi i : Nat} : i ∈ badN wr l bend lo hi ↔ lo ≤ i ∧ i < hi ∧ badB bend (sec wr l i) = true := by
  unfold badN
  rw [List.mem_filter, List.mem_range'_1]
  constructor
  · rintro ⟨⟨h1, h2⟩, h3⟩; exact ⟨h1, by omega, h3⟩
  · rintro ⟨h1, h2, h3⟩; exact ⟨⟨h1, by omega⟩, h3⟩
theorem badN_nil {wr : Bool} {l : List Int} {bend : Int} {lo hi : Nat} : badN wr l bend lo hi = [] ↔ ∀ i, lo ≤ i → i < hi → badB bend (sec wr l i) = false := by
  rw [List.eq_nil_iff_forall_not_mem]
  constructor
  · intro h i h1 h2
    cases e : badB bend (sec wr l i)
    · rfl
    · exact absurd (mem_badN.2 ⟨h1, h2, e⟩) (h i)
  · intro h i hi
    obtain ⟨h1, h2, h3⟩ := mem_badN.1 hi
    rw [h i h1 h2] at h3; cases h3
theorem badN_step (wr : Bool) (l : List Int) (bend : Int) (lo k : Nat) (h : lo ≤ k) : badN wr l bend lo (k + 1) = badN wr l bend lo k ++ if badB bend (sec wr l k) then [k] else [] := by
  unfold badN
  rw [show k + 1 - lo = (k - lo) + 1 by omega, List.range'_concat, List.filter_append]
  congr 1
  rw [show lo + 1 * (k - lo) = k by omega]
  simp only [List.filter_cons, List.filter_nil]
theorem badN_self (wr : Bool) (l : List Int) (bend : Int) (lo hi : Nat) (h : hi ≤ lo) : badN wr l bend lo hi = [] := by
  unfold badN; rw [show hi - lo = 0 by omega]; rfl
theorem badL_len {wr : Bool} {l : List Int} {bend : Int} {lo hi : Nat} : (badL wr l bend lo hi).length ≤ hi - lo := by
  unfold badL badN
  rw [List.length_map]
  exact Nat.le_trans (List.length_filter_le _ _) (by simp)
theorem mem_badL {wr : Bool} {l : List Int} {bend : Int} {lo hi : Nat} {x : Int} : x ∈ badL wr l bend lo hi ↔ ∃ i : Nat, x = i ∧ lo ≤ i ∧ i < hi ∧ badB bend (sec wr l i) = true := by
  unfold badL
  rw [List.mem_map]
  constructor
  · rintro ⟨i, h, rfl⟩; exact ⟨i, rfl, mem_badN.1 h⟩
  · rintro ⟨i, rfl, h⟩; exact ⟨i, mem_badN.2 h, rfl⟩

/-- Strictly ascending. -/
def Asc (l : List Int) : Prop := l.Pairwise (· < ·)
theorem asc_eq : ∀ {a b : List Int}, Asc a → Asc b → (∀ x, x ∈ a ↔ x ∈ b) → a = b
  | [], [], _, _, _ => rfl
  | [], y :: b, _, _, h => absurd ((h y).2 (List.mem_cons_self ..)) (List.not_mem_nil)
  | x :: a, [], _, _, h => absurd ((h x).1 (List.mem_cons_self ..)) (List.not_mem_nil)
  | x :: a, y :: b, ha, hb, h => by
    obtain ⟨hx, ha'⟩ := List.pairwise_cons.1 ha
    obtain ⟨hy, hb'⟩ := List.pairwise_cons.1 hb
    have e : x = y := by
      rcases List.mem_cons.1 ((h x).1 (List.mem_cons_self ..)) with e | e
      · exact e
      · rcases List.mem_cons.1 ((h y).2 (List.mem_cons_self ..)) with e2 | e2
        · exact e2.symm
        · have h1 : x < y := hx y e2
          have h2 : y < x := hy x e
          omega
    subst e
    congr 1
    refine asc_eq ha' hb' fun z => ?_
    constructor
    · intro hz
      rcases List.mem_cons.1 ((h z).1 (List.mem_cons_of_mem _ hz)) with e | e
      · subst e; exact absurd (hx z hz) (Int.lt_irrefl z)
      · exact e
    · intro hz
      rcases List.mem_cons.1 ((h z).2 (List.mem_cons_of_mem _ hz)) with e | e
      · subst e; exact absurd (hy z hz) (Int.lt_irrefl z)
      · exact e
theorem asc_filter {l : List Int} (h : Asc l) (p : Int → Bool) : Asc (l.filter p) := List.Pairwise.filter p h
/-- An ascending list with a further element, each once. -/
def putI (x : Int) : List Int → List Int
  | [] => [x]
  | y :: l => if y < x then y :: putI x l else if y = x then y :: l else x :: y :: l
theorem mem_putI {x : Int} : ∀ {l : List Int} {z : Int}, z ∈ putI x l ↔ z = x ∨ z ∈ l
  | [], z => by simp [putI]
  | y :: l, z => by
    unfold putI
    split
    · rw [List.mem_cons, mem_putI, List.mem_cons]
      constructor
      · rintro (h | h | h)
        · exact .inr (.inl h)
        · exact .inl h
        · exact .inr (.inr h)
      · rintro (h | h | h)
        · exact .inr (.inl h)
        · exact .inl h
        · exact .inr (.inr h)
    · split
      · rename_i h; subst h
        constructor
        · exact .inr
        · rintro (h | h)
          · subst h; exact List.mem_cons_self ..
          · exact h
      · rw [List.mem_cons]
theorem asc_putI {x : Int} : ∀ {l : List Int}, Asc l → Asc (putI x l)
  | [], _ => List.pairwise_singleton ..
  | y :: l, h => by
    obtain ⟨hy, hl⟩ := List.pairwise_cons.1 h
    unfold putI
    split
    · rename_i hlt
      refine List.pairwise_cons.2 ⟨fun z hz => ?_, asc_putI hl⟩
      rcases mem_putI.1 hz with e | e
      · subst e; exact hlt
      · exact hy z e
    · split
      · exact h
      · refine List.pairwise_cons.2 ⟨fun z hz => ?_, h⟩
        rcases List.mem_cons.1 hz with e | e
        · subst e; omega
        · have := hy z e; omega

/-- May a number be an entry? -/
def permB (wr : Bool) (n : Int) : Bool := if wr then decide (0 ≤ n ∧ n < 216000) else decide (-1048576 ≤ n ∧ n ≤ 1048576)
def givE (wr : Bool) (l : List Int) : Int := if l.length < 3 ∨ 1000 < l.length then 3 else if l.all (permB wr) then 0 else 1
structure Giv (wr : Bool) (l : List Int) : Prop where
  n3 : 3 ≤ l.length
  n1000 : l.length ≤ 1000
  perm : ∀ i, i < l.length → permB wr (nth l i) = true
theorem giv_iff {wr : Bool} {l : List Int} : givE wr l = 0 ↔ Giv wr l := by
  unfold givE
  constructor
  · intro h
    split at h
    · cases h
    · rename_i h1
      split at h
      · rename_i h2
        refine ⟨by omega, by omega, fun i hi => ?_⟩
        have := List.all_eq_true.1 h2 (nth l i) (by unfold nth; simp [List.getD, hi])
        exact this
      · cases h
  · rintro ⟨h1, h2, h3⟩
    rw [if_neg (by omega), if_pos]
    rw [List.all_eq_true]
    intro x hx
    obtain ⟨i, hi, rfl⟩ := List.getElem_of_mem hx
    have := h3 i hi
    unfold nth at this
    simpa [List.getD, hi] using this
theorem perm_bd {wr : Bool} {n : Int} (h : permB wr n = true) : -1048576 ≤ n ∧ n ≤ 1048576 := by
  unfold permB at h
  cases wr
  · simpa using h
  · simp at h; omega
theorem frm_bd {wr : Bool} {a b : Int} (ha : permB wr a = true) (hb : permB wr b = true) : -2097152 ≤ frm wr (a - b) ∧ frm wr (a - b) ≤ 2097152 := by
  unfold permB at ha hb; unfold frm
  cases wr
  · simp at ha hb ⊢; omega
  · simp at ha hb ⊢; omega
theorem stp_bd {wr : Bool} {l : List Int} (h : Giv wr l) {i : Nat} (hi : i + 1 < l.length) : -2097152 ≤ stp wr l i ∧ stp wr l i ≤ 2097152 := frm_bd (h.perm _ hi) (h.perm _ (by omega))
theorem sec_bd {wr : Bool} {l : List Int} (h : Giv wr l) {i : Nat} (h0 : 1 ≤ i) (hi : i + 1 < l.length) : -4194304 ≤ sec wr l i ∧ sec wr l i ≤ 4194304 := by
  have := stp_bd h hi
  have := stp_bd h (i := i - 1) (by omega)
  unfold sec; omega
theorem giv_set {wr : Bool} {l : List Int} (h : Giv wr l) (i : Nat) (v : Int) (hv : permB wr v = true) : Giv wr (l.set i v) := by
  refine ⟨by simpa using h.n3, by simpa using h.n1000, fun j hj => ?_⟩
  have hj' : j < l.length := by simpa using hj
  by_cases hi : i < l.length
  · rw [nth_set l i v hi]
    split
    · exact hv
    · exact h.perm j hj'
  · rw [List.set_eq_of_length_le (by omega)]; exact h.perm j hj'
end Go.Proofs.YtlkphcjlgbimkaaGreat
/- Slices of ints that are read; rows of ints of the call's own; an append to such a row. -/
namespace Go.Proofs.YtlkphcjlgbimkaaGreat
open Go.RowKit

theorem lay_app (w : World) (A B : List (Obj ⊕ Ext)) : lay w (A ++ B) = lay (lay w B) A := by
  induction A with
  | nil => rfl
  | cons x A ih =>
    cases x with
    | inl o => exact congrArg (fun W => World.alloc W o) ih
    | inr d => exact congrArg (fun W => bw W d) ih
theorem lay_below {w : World} {A B : List (Obj ⊕ Ext)} : Below (lay w B).heap.size (lay w B) (lay w (A ++ B)) := by rw [lay_app]; exact lay_extends _ _
/-- The value is a slice that reads, in this world, as these ints. -/
def Sl (w : World) (v : Value) (l : List Int) : Prop :=
  ∃ a cap, v = .slice a l.length cap ∧ (l.length ≤ cap ∧ cap ≤ 9223372036854775807) ∧ (∀ i, i < l.length → (Lit.int .i64 (nth l i)).wf = true) ∧
    (l ≠ [] → ∃ b o, a = some ⟨b, o, none⟩ ∧ b < w.heap.size ∧ ∀ i, i < l.length → w.cell? ⟨b, o + i, none⟩ = some (.int .i64 (nth l i)))
theorem Sl.ext {w w' : World} {v : Value} {l : List Int} (h : Sl w v l) (hb : Below w.heap.size w w') : Sl w' v l := by
  obtain ⟨a, cap, h1, h2, h0, h3⟩ := h
  refine ⟨a, cap, h1, h2, h0, fun hl => ?_⟩
  obtain ⟨b, o, h4, h5, h6⟩ := h3 hl
  exact ⟨b, o, h4, Nat.lt_of_lt_of_le h5 hb.size, fun i hi => (hb.cell (p := ⟨b, o + i, none⟩) h5).trans (h6 i hi)⟩
theorem Sl.bw {w : World} {v : Value} {l : List Int} (h : Sl w v l) (d : Ext) : Sl (bw w d) v l := h.ext (bw_below w d)
theorem Sl.lay {w : World} {v : Value} {l : List Int} (h : Sl w v l) (L : List (Obj ⊕ Ext)) : Sl (lay w L) v l := h.ext (lay_extends w L)
theorem sl_on {w : World} {v : Value} {l : List Int} {A B : List (Obj ⊕ Ext)} (h : Sl (lay w B) v l) : Sl (lay w (A ++ B)) v l := h.ext lay_below
theorem Sl.nil (w : World) : Sl w (.slice none 0 0) [] := ⟨none, 0, rfl, by simp, fun i hi => absurd hi (Nat.not_lt_zero i), fun h => absurd rfl h⟩
/-- What a walk wants of a slice that is not empty. -/
theorem Sl.open {w : World} {v : Value} {l : List Int} (h : Sl w v l) (hl : 0 < l.length) :
    ∃ b o cap, v = .slice (some ⟨b, o, none⟩) l.length cap ∧ (l.length ≤ cap ∧ cap ≤ 9223372036854775807) ∧ (∀ i, i < l.length → (Lit.int .i64 (nth l i)).wf = true) ∧ b < w.heap.size ∧ ∀ i, i < l.length → w.cell? ⟨b, o + i, none⟩ = some (.int .i64 (nth l i)) := by
  obtain ⟨a, cap, rfl, h2, h0, h3⟩ := h
  obtain ⟨b, o, rfl, h5, h6⟩ := h3 (by intro e; rw [e] at hl; exact Nat.lt_irrefl 0 hl)
  exact ⟨b, o, cap, rfl, h2, h0, h5, h6⟩
theorem sl_of_fn {w : World} {a : Addr} {n cap : Nat} (hn : n ≤ cap ∧ cap ≤ 9223372036854775807) (hsp : a.spot = none) (hb : n ≠ 0 → a.block < w.heap.size) (f : Nat → Int)
    (h : ∀ i, i < n → w.cell? ⟨a.block, a.off + i, none⟩ = some (.int .i64 (f i)) ∧ (Lit.int .i64 (f i)).wf = true) :
    Sl w (.slice (some a) n cap) ((List.range n).map f) := by
  have e : ∀ i, i < n → nth ((List.range n).map f) i = f i := fun i hi => by simp [nth, List.getD, hi]
  refine ⟨some a, cap, by simp, by simpa using hn, fun i hi => ?_, fun hl => ⟨a.block, a.off, by cases a; simp_all, hb (by rintro rfl; exact hl rfl), fun i hi => ?_⟩⟩
  · have hi' : i < n := by simpa using hi
    rw [e i hi']; exact (h i hi').2
  · have hi' : i < n := by simpa using hi
    rw [e i hi']; exact (h i hi').1
theorem s_add_block1 (a : Addr) (n : Nat) : (a.add n).block = a.block := by
  unfold Addr.add; split <;> rfl
theorem s_add_none1 {a : Addr} (h : a.spot = none) (n : Nat) : a.add n = ⟨a.block, a.off + n, none⟩ := by
  unfold Addr.add
  split
  · rename_i h0
    have : n = 0 := by simpa using h0
    subst this
    cases a; simp_all
  · rfl
section
variable {H : Type} {enc : TypeId × Value → H} {P : Program}
theorem sl_of {w : World} {t e : TypeId} {fuel : Nat} {v : Value} {x : DataW H × List MemPlace} (ht : P.underlying t = some (.slice e)) (he : P.underlying e = some (.int .i64)) (hC : P.cellsOf e = 1)
    (hf : DataW.trod enc P w 0 (fun _ => true) true fuel t [v] = some x) : ∃ l, Sl w v l := by
  rcases Go.Deep.open_slice ht hf with ⟨hcs, _⟩ | ⟨a', len', cap', m, n, D, Pl, hcs, hb, hl, hm, hmm, hx, hel⟩
  · obtain rfl : v = .slice none 0 0 := by simpa using hcs
    exact ⟨[], Sl.nil w⟩
  · obtain rfl : v = .slice (some a') len' cap' := by simpa using hcs
    simp only [if_true] at hmm
    subst hmm
    obtain ⟨f, hF⟩ := Go.Deep.choose_lt (α := Int) (p := fun i y => w.cell? (a'.add i) = some (.int .i64 y) ∧ (Lit.int .i64 y).wf = true) (n := m) (fun i him => by
      obtain ⟨cs', hc', ht'⟩ := hel i him
      rw [hC] at hc'
      obtain ⟨_, hcl, hat⟩ := World.cells?_some hc'
      obtain ⟨y, rfl, _, hw⟩ := DataW.trod_int he ht'
      exact ⟨y, by simpa [Go.Deep.add_add] using hat 0 (by simp), hw⟩)
    have hspot : 0 < len' → a'.spot = none := fun hp => by
      have := (hF 0 (by omega)).1
      unfold World.cell? at this
      cases hs : a'.spot
      · rfl
      · simp [Addr.add, hs] at this
        try (split at this <;> simp at this)
    have hbl : 0 < len' → a'.block < w.heap.size := fun hp => by
      obtain ⟨cs', hc', _⟩ := hel 0 (by omega)
      rw [hC] at hc'
      have := World.cells?_block hc' (by omega)
      simpa [s_add_block1] using this
    have hM : maxLen = 9223372036854775807 := by decide
    by_cases hz : len' = 0
    · subst hz
      exact ⟨[], some a', _, rfl, ⟨hl, by omega⟩, fun i hi => absurd hi (Nat.not_lt_zero i), fun hne => absurd rfl hne⟩
    · refine ⟨_, sl_of_fn ⟨hl, by omega⟩ (hspot (by omega)) (fun _ => hbl (by omega)) f fun i hi' => ?_⟩
      have g := hF i (by omega)
      rw [s_add_none1 (hspot (by omega))] at g
      exact g
theorem sl_open {w : World} {r : Reach} {b0 : Nat} {t e : TypeId} {v : Value} {d : DataW H} {ps : List MemPlace} (ht : P.underlying t = some (.slice e)) (he : P.underlying e = some (.int .i64)) (hC : P.cellsOf e = 1)
    (hv : Value.okWide P w r b0 t v) (h : DataW.Trod enc P w 0 (fun _ => true) true t v d ps) : ∃ l, Sl w v l := by
  obtain ⟨a, len, cap, rfl⟩ := Go.WideShapes.okWide_slice ht hv
  obtain ⟨fuel, hf⟩ := h
  exact sl_of ht he hC (by simpa [Value.cells] using hf)
end

/-- The value is a row of the call's own (its blocks behind base) that holds these ints. -/
def Ow (w : World) (base : Nat) (v : Value) (l : List Int) : Prop :=
  w.ownsRow base 3 1 v l.length (l.map (Value.int .i64)) ∧ ∀ i, i < l.length → (Lit.int .i64 (nth l i)).wf = true
theorem Ow.nil (w : World) (base : Nat) : Ow w base (.slice none 0 0) [] := ⟨World.ownsRow_nil w base _ _, fun i hi => absurd hi (Nat.not_lt_zero i)⟩
theorem Ow.form {w : World} {base : Nat} {v : Value} {l : List Int} (h : Ow w base v l) : ∃ a cap, v = .slice a l.length cap := by
  rcases h.1.2 with ⟨rfl, hz⟩ | ⟨g, cap, cur, rfl, _⟩
  · exact ⟨none, 0, by rw [hz]⟩
  · exact ⟨_, cap, rfl⟩
theorem Ow.form1 {w : World} {base : Nat} {v : Value} {l : List Int} (h : Ow w base v l) (hl : 0 < l.length) : ∃ g cap, v = .slice (some ⟨g, 0, none⟩) l.length cap ∧ base ≤ g ∧ g < w.heap.size ∧ l.length ≤ cap ∧ cap ≤ 9223372036854775807 := by
  rcases h.1.2 with ⟨rfl, hz⟩ | ⟨g, cap, cur, rfl, h1, h2, h3, h4, _⟩
  · omega
  · have hM : maxLen = 9223372036854775807 := by decide
    exact ⟨g, cap, rfl, h1, (Array.getElem?_eq_some_iff.1 h2).1, h3, by omega⟩
theorem nth_getElem? {l : List Int} {i : Nat} (h : i < l.length) : l[i]? = some (nth l i) := by simp [nth, List.getD, h]
theorem Ow.cell {w : World} {base g cap n : Nat} {l : List Int} (h : Ow w base (.slice (some ⟨g, 0, none⟩) n cap) l) {i : Nat} (hi : i < l.length) : w.cell? ⟨g, i, none⟩ = some (.int .i64 (nth l i)) := by
  have h1 := h.1
  have hn : n = l.length := by
    obtain ⟨a, c, e⟩ := h.form
    cases e; rfl
  subst hn
  rw [h1.cellAt i (by omega), List.getElem?_map, nth_getElem? hi]
  rfl
theorem Ow.froz {w : World} {base g cap n : Nat} {l : List Int} (h : Ow w base (.slice (some ⟨g, 0, none⟩) n cap) l) (j : Nat) : w.frozen? ⟨g, j, none⟩ = false := by
  have hn : n = l.length := by
    obtain ⟨a, c, e⟩ := h.form
    cases e; rfl
  subst hn
  exact h.1.frozenAt j
theorem Ow.sl {w : World} {base : Nat} {v : Value} {l : List Int} (h : Ow w base v l) : Sl w v l := by
  by_cases hl : l = []
  · subst hl
    rcases h.1.2 with ⟨rfl, hz⟩ | ⟨g, cap, cur, rfl, _, _, h3, h4, _⟩
    · exact Sl.nil w
    · have hM : maxLen = 9223372036854775807 := by decide
      exact ⟨_, cap, rfl, ⟨h3, by omega⟩, h.2, fun hne => absurd rfl hne⟩
  · have hl' : 0 < l.length := List.length_pos_iff.2 hl
    obtain ⟨g, cap, rfl, h1, h2, h3⟩ := h.form1 hl'
    exact ⟨_, cap, rfl, h3, h.2, fun _ => ⟨g, 0, rfl, h2, fun i hi => by rw [Nat.zero_add]; exact h.cell hi⟩⟩
theorem Ow.ext {w w' : World} {base : Nat} {v : Value} {l : List Int} (h : Ow w base v l) (hb : Below w.heap.size w w') : Ow w' base v l := by
  refine ⟨⟨h.1.1, h.1.2.imp id ?_⟩, h.2⟩
  rintro ⟨g, cap, cur, e, h1, h2, h3⟩
  exact ⟨g, cap, cur, e, h1, (hb.block g (Array.getElem?_eq_some_iff.1 h2).1).trans h2, h3⟩
theorem Ow.lay {w : World} {base : Nat} {v : Value} {l : List Int} (h : Ow w base v l) (L : List (Obj ⊕ Ext)) : Ow (lay w L) base v l := h.ext (lay_extends w L)
theorem Ow.bw {w : World} {base : Nat} {v : Value} {l : List Int} (h : Ow w base v l) (d : Ext) : Ow (bw w d) base v l := h.ext (bw_below w d)
theorem Ow.le {w : World} {base base' : Nat} {v : Value} {l : List Int} (h : Ow w base v l) (hb : base' ≤ base) : Ow w base' v l := ⟨⟨h.1.1, h.1.2.imp id fun ⟨g, cap, cur, e, h1, h2⟩ => ⟨g, cap, cur, e, Nat.le_trans hb h1, h2⟩⟩, h.2⟩
theorem ow_on {w : World} {base : Nat} {v : Value} {l : List Int} {A B : List (Obj ⊕ Ext)} (h : Ow (lay w B) base v l) : Ow (lay w (A ++ B)) base v l := h.ext lay_below
/-- An append to such a row of an element that was just laid down. -/
theorem ow_append {l : List Int} {c : Int} (hl : ∀ i, i < l.length → (Lit.int .i64 (nth l i)).wf = true) (hc : (Lit.int .i64 c).wf = true) : ∀ i, i < (l ++ [c]).length → (Lit.int .i64 (nth (l ++ [c]) i)).wf = true := by
  intro i hi
  by_cases h : i < l.length
  · have : nth (l ++ [c]) i = nth l i := by unfold nth; simp [List.getD, List.getElem?_append, h]
    rw [this]; exact hl i h
  · have h2 : i = l.length := by simp at hi; omega
    have : nth (l ++ [c]) i = c := by unfold nth; simp [List.getD, h2]
    rw [this]; exact hc
theorem info_intS : (Tryz.prog.info? 3).map (fun i => (i.zero, i.size, i.bytes)) = some (some (.int .i64 0), 1, 8) := by kernel_rfl
theorem push_int {ops : Array Oper} {rest : List Oper} {o : Oper} {a : Act} {Q : Exit → Act → World → Prop} (hgd : o.guard = none) (s x : Operand)
    (ho : o.op = .call { callee := .builtin .append, args := #[s, x], argTypes := #[55, 55] })
    (W0 : World) (wb : World) (c : Int) (te : TypeId) (xb : Nat) (v : Value) (l : List Int) (hw : Below W0.heap.size W0 wb) (hown : Ow wb W0.heap.size v l)
    (hcell : wb.heap[xb]? = some (.cells #[.int .i64 c] te (0, 0))) (hs : a.eval s = v) (hx : a.eval x = .slice (some ⟨xb, 0, none⟩) 1 1)
    (hn : l.length ≤ 1000000000) (hc : (Lit.int .i64 c).wf = true)
    (h : ∀ v' d, Ow (Go.Proofs.YtlkphcjlgbimkaaGreat.bw W0 d) W0.heap.size v' (l ++ [c]) → wpList Tryz.prog ops Q rest (a.put o.dst v') (Go.Proofs.YtlkphcjlgbimkaaGreat.bw W0 d)) :
    wpList Tryz.prog ops Q (o :: rest) a wb := by
  obtain ⟨i, hi, hz0, hz1, hz2⟩ := info_parts info_intS
  have hM : maxLen = 9223372036854775807 := by decide
  refine wpList_append_lies wb hgd s x 55 ho W0.heap.size 3 i (.int .i64 0) 1 8 Tryz.underlying55 hi hz0 hz1 hz2 rfl (by decide) v l.length (l.map (Value.int .i64)) hs hown.1 ⟨xb, 0, none⟩ 1 1 [.int .i64 c] hx rfl (World.news_of_block (cs := #[.int .i64 c]) hcell) (by simp [Value.oneCell']) (by decide) (by omega) (by omega) hw.size wb.heap.size rfl ?_
  intro g cap w' hown' hg hat _
  obtain ⟨d, hd⟩ := bw_of (w := W0) (w' := w') (hw.grown hg hw.size (fun k hk => (hown.1.lt k hk).1))
  subst hd
  exact h _ d ⟨by simpa using hown', ow_append hown.2 hc⟩
/-- A store into such a row. -/
theorem ow_store {w : World} {base g cap n : Nat} {l : List Int} (h : Ow w base (.slice (some ⟨g, 0, none⟩) n cap) l) (j : Nat) (x : Int) (hx : (Lit.int .i64 x).wf = true) :
    Ow (w.setCell ⟨g, j, none⟩ (.int .i64 x)) base (.slice (some ⟨g, 0, none⟩) n cap) (l.set j x) := by
  have hn : n = l.length := by
    obtain ⟨a, c, e⟩ := h.form
    cases e; rfl
  subst hn
  refine ⟨by have := (h.1.stored j (.int .i64 x)).1; rw [List.length_set, List.map_set]; exact this, fun i hi => ?_⟩
  have hi' : i < l.length := by simpa using hi
  by_cases hj : j < l.length
  · rw [nth_set l j x hj]
    split
    · exact hx
    · exact h.2 i hi'
  · rw [List.set_eq_of_length_le (by omega)]; exact h.2 i hi'
/-- A row behind a block is the same whatever the block holds. -/
theorem ow_swap {w : World} {T : List (Obj ⊕ Ext)} {o : Obj} (o' : Obj) {e : Ext} {base : Nat} {v : Value} {l : List Int} (hb : (lay w T).heap.size < base)
    (h : Ow (lay w (.inr e :: .inl o :: T)) base v l) : Ow (lay w (.inr e :: .inl o' :: T)) base v l := by
  refine ⟨⟨h.1.1, h.1.2.imp id fun ⟨g, cap, cur, h1, h2, h3, h4⟩ => ⟨g, cap, cur, h1, h2, ?_, h4⟩⟩, h.2⟩
  rw [← h3]
  show ((Go.Proofs.YtlkphcjlgbimkaaGreat.lay w T).heap.push o' ++ e.blocks)[g]? = ((Go.Proofs.YtlkphcjlgbimkaaGreat.lay w T).heap.push o ++ e.blocks)[g]?
  rw [Array.getElem?_append, Array.getElem?_append, Array.size_push, Array.size_push]
  rw [if_neg (by omega), if_neg (by omega)]
theorem lay_lt (w : World) (o : Obj) (T : List (Obj ⊕ Ext)) : (Go.Proofs.YtlkphcjlgbimkaaGreat.lay w T).heap.size < (Go.Proofs.YtlkphcjlgbimkaaGreat.lay w (.inl o :: T)).heap.size := by
  show _ < (World.alloc _ o).heap.size
  rw [World.size_alloc]; exact Nat.lt_succ_self _
/-- A store behind a world's blocks leaves a world that extends it. -/
theorem bw_store {w : World} {d : Ext} {g i : Nat} {v : Value} (hg : w.heap.size ≤ g) : ∃ d', (Go.Proofs.YtlkphcjlgbimkaaGreat.bw w d).setCell ⟨g, i, none⟩ v = Go.Proofs.YtlkphcjlgbimkaaGreat.bw w d' := by
  refine bw_of ?_
  have h1 := bw_below w d
  refine ⟨h1.1, h1.2, h1.3, ?_, fun k hk => ?_⟩
  · rw [World.size_setCell]; exact h1.size
  · rw [heap_setCell_other _ ⟨g, i, none⟩ k v (by intro e; have : k = g := by simpa using e
                                                  omega)]
    exact h1.block k hk
end Go.Proofs.YtlkphcjlgbimkaaGreat
