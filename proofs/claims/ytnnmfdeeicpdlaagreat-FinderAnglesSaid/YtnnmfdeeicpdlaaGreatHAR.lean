/- Contracts and plain laws, several texts in one: Row; CiP; QnP; QnQ -/
import Derived.Test.YtnnmfdeeicpdlaaGreatProg
import Derived.WalkKit
import Derived.WalkSpells
import Derived.WalkLawsBesides
import Derived.Lib.Hide
import Derived.BigQuiet
import Derived.Deep.Slices
import Derived.Deep.AppendLies
import Derived.Maps.AppendAt
import Derived.Laws.AppendOwnNone
import Derived.Laws.OwnMore
import Derived.WideShapes
import Derived.Lib.SmallJoins
import GoSem.Core.Next
import Derived.Test.YtnnmfdeeicpdlaaGreatHAC
import Derived.Test.YtnnmfdeeicpdlaaGreatHAD
import Derived.Test.YtnnmfdeeicpdlaaGreatHAE
import Derived.Test.YtnnmfdeeicpdlaaGreatHAQ
/- Rows of records of k cells: slices that read as a list, rows of the call's own, an append of one record or of a whole slice, a store into a record. No function of the program. -/
namespace Go.Proofs.YtnnmfdeeicpdlaaGreat
open Go.RowKit

structure RecT (α : Type) where
  E : TypeId
  S : TypeId
  k : Nat
  bytes : Nat
  enc : α → List Value
  wf : α → Prop
structure RecOk {α : Type} (R : RecT α) : Prop where
  len : ∀ x, (R.enc x).length = R.k
  one : ∀ x, ∀ u ∈ R.enc x, u.oneCell' = true
  pos : 0 < R.k
  und : Tryz.prog.underlying R.S = some (.slice R.E)
  info : ∃ i z, Tryz.prog.info? R.E = some i ∧ i.zero = some z ∧ i.size = R.k ∧ i.bytes = R.bytes ∧ z.cells.size = R.k
  small : R.bytes ≤ 1000
variable {α : Type} {R : RecT α}

theorem flat_len (hR : RecOk R) (l : List α) : (l.flatMap R.enc).length = l.length * R.k := by
  induction l with
  | nil => simp
  | cons x l ih => rw [List.flatMap_cons, List.length_append, hR.len, ih, List.length_cons, Nat.succ_mul, Nat.add_comm]
theorem flat_get (hR : RecOk R) : ∀ {l : List α} {i j : Nat} {x : α}, l[i]? = some x → j < R.k → (l.flatMap R.enc)[i * R.k + j]? = (R.enc x)[j]?
  | [], i, j, x, h, _ => by simp at h
  | y :: l, 0, j, x, h, hj => by
    simp only [List.getElem?_cons_zero, Option.some.injEq] at h
    subst h
    rw [List.flatMap_cons, List.getElem?_append_left (by rw [hR.len]; omega)]
    congr 1; omega
  | y :: l, i + 1, j, x, h, hj => by
    rw [List.getElem?_cons_succ] at h
    rw [List.flatMap_cons, List.getElem?_append_right (by rw [hR.len, Nat.succ_mul]; omega), hR.len]
    rw [show (i + 1) * R.k + j - R.k = i * R.k + j by rw [Nat.succ_mul]; omega]
    exact flat_get hR h hj
def SlG (R : RecT α) (w : World) (v : Value) (l : List α) : Prop :=
  ∃ a cap, v = .slice a l.length cap ∧ (l.length ≤ cap ∧ cap ≤ 9223372036854775807) ∧ (∀ x ∈ l, R.wf x) ∧
    (l ≠ [] → ∃ b o, a = some ⟨b, o, none⟩ ∧ b < w.heap.size ∧ ∀ (i : Nat) x, l[i]? = some x → ∀ (j : Nat) u, (R.enc x)[j]? = some u → w.cell? ⟨b, o + (i * R.k + j), none⟩ = some u)
theorem SlG.ext {w w' : World} {v : Value} {l : List α} (h : SlG R w v l) (hb : Below w.heap.size w w') : SlG R w' v l := by
  obtain ⟨a, cap, h1, h2, h0, h3⟩ := h
  refine ⟨a, cap, h1, h2, h0, fun hl => ?_⟩
  obtain ⟨b, o, h4, h5, h6⟩ := h3 hl
  exact ⟨b, o, h4, Nat.lt_of_lt_of_le h5 hb.size, fun i x hx j u hu => (hb.cell (p := ⟨b, o + (i * R.k + j), none⟩) h5).trans (h6 i x hx j u hu)⟩
theorem SlG.bw {w : World} {v : Value} {l : List α} (h : SlG R w v l) (d : Ext) : SlG R (bw w d) v l := h.ext (bw_below w d)
theorem SlG.lay {w : World} {v : Value} {l : List α} (h : SlG R w v l) (L : List (Obj ⊕ Ext)) : SlG R (lay w L) v l := h.ext (lay_extends w L)
theorem lay_appG (w : World) (A B : List (Obj ⊕ Ext)) : lay w (A ++ B) = lay (lay w B) A := by
  induction A with
  | nil => rfl
  | cons x A ih =>
    cases x with
    | inl o => exact congrArg (fun W => World.alloc W o) ih
    | inr d => exact congrArg (fun W => Go.Proofs.YtnnmfdeeicpdlaaGreat.bw W d) ih
theorem lay_belowG {w : World} {A B : List (Obj ⊕ Ext)} : Below (lay w B).heap.size (lay w B) (lay w (A ++ B)) := by rw [lay_appG]; exact lay_extends _ _
theorem slG_on {w : World} {v : Value} {l : List α} {A B : List (Obj ⊕ Ext)} (h : SlG R (lay w B) v l) : SlG R (lay w (A ++ B)) v l := h.ext lay_belowG
theorem SlG.nil (R : RecT α) (w : World) : SlG R w (.slice none 0 0) [] := ⟨none, 0, rfl, by simp, fun _ h => absurd h (List.not_mem_nil), fun h => absurd rfl h⟩
theorem SlG.open {w : World} {v : Value} {l : List α} (h : SlG R w v l) (hl : 0 < l.length) :
    ∃ b o cap, v = .slice (some ⟨b, o, none⟩) l.length cap ∧ (l.length ≤ cap ∧ cap ≤ 9223372036854775807) ∧ b < w.heap.size ∧ ∀ (i : Nat) x, l[i]? = some x → ∀ (j : Nat) u, (R.enc x)[j]? = some u → w.cell? ⟨b, o + (i * R.k + j), none⟩ = some u := by
  obtain ⟨a, cap, rfl, h2, _, h3⟩ := h
  obtain ⟨b, o, rfl, h5, h6⟩ := h3 (by intro e; rw [e] at hl; exact Nat.lt_irrefl 0 hl)
  exact ⟨b, o, cap, rfl, h2, h5, h6⟩
theorem SlG.wf {w : World} {v : Value} {l : List α} (h : SlG R w v l) : ∀ x ∈ l, R.wf x := by
  obtain ⟨_, _, _, _, h, _⟩ := h; exact h
theorem SlG.form {w : World} {v : Value} {l : List α} (h : SlG R w v l) : ∃ a cap, v = .slice a l.length cap := by
  obtain ⟨a, c, e, _⟩ := h; exact ⟨a, c, e⟩
def OwG (R : RecT α) (w : World) (base : Nat) (v : Value) (l : List α) : Prop :=
  w.ownsRow base R.E R.k v l.length (l.flatMap R.enc) ∧ ∀ x ∈ l, R.wf x
theorem OwG.nil (R : RecT α) (w : World) (base : Nat) : OwG R w base (.slice none 0 0) [] := ⟨World.ownsRow_nil w base _ _, fun _ h => absurd h (List.not_mem_nil)⟩
theorem OwG.form {w : World} {base : Nat} {v : Value} {l : List α} (h : OwG R w base v l) : ∃ a cap, v = .slice a l.length cap := by
  rcases h.1.2 with ⟨rfl, hz⟩ | ⟨g, cap, cur, rfl, _⟩
  · exact ⟨none, 0, by rw [hz]⟩
  · exact ⟨_, cap, rfl⟩
theorem OwG.form1 {w : World} {base : Nat} {v : Value} {l : List α} (h : OwG R w base v l) (hl : 0 < l.length) : ∃ g cap, v = .slice (some ⟨g, 0, none⟩) l.length cap ∧ base ≤ g ∧ g < w.heap.size ∧ l.length ≤ cap ∧ cap ≤ 9223372036854775807 := by
  rcases h.1.2 with ⟨rfl, hz⟩ | ⟨g, cap, cur, rfl, h1, h2, h3, h4, _⟩
  · omega
  · have hM : maxLen = 9223372036854775807 := by decide
    exact ⟨g, cap, rfl, h1, (Array.getElem?_eq_some_iff.1 h2).1, h3, by omega⟩
theorem OwG.cell (hR : RecOk R) {w : World} {base g cap n : Nat} {l : List α} (h : OwG R w base (.slice (some ⟨g, 0, none⟩) n cap) l) {i j : Nat} {x : α} {u : Value} (hx : l[i]? = some x) (hu : (R.enc x)[j]? = some u) : w.cell? ⟨g, i * R.k + j, none⟩ = some u := by
  have hn : n = l.length := by
    obtain ⟨a, c, e⟩ := h.form
    cases e; rfl
  subst hn
  have hi := (List.getElem?_eq_some_iff.1 hx).1
  have hj : j < R.k := by have := (List.getElem?_eq_some_iff.1 hu).1; rw [hR.len] at this; exact this
  rw [h.1.cellAt _ (by have : (i + 1) * R.k ≤ l.length * R.k := Nat.mul_le_mul_right _ hi
                       rw [Nat.succ_mul] at this; omega), flat_get hR hx hj, hu]
theorem OwG.froz {w : World} {base g cap n : Nat} {l : List α} (h : OwG R w base (.slice (some ⟨g, 0, none⟩) n cap) l) (j : Nat) : w.frozen? ⟨g, j, none⟩ = false := by
  have hn : n = l.length := by
    obtain ⟨a, c, e⟩ := h.form
    cases e; rfl
  subst hn
  exact h.1.frozenAt j
theorem OwG.sl (hR : RecOk R) {w : World} {base : Nat} {v : Value} {l : List α} (h : OwG R w base v l) : SlG R w v l := by
  by_cases hl : l = []
  · subst hl
    rcases h.1.2 with ⟨rfl, hz⟩ | ⟨g, cap, cur, rfl, _, _, h3, h4, _⟩
    · exact SlG.nil R w
    · have hM : maxLen = 9223372036854775807 := by decide
      exact ⟨_, cap, rfl, ⟨h3, by omega⟩, h.2, fun hne => absurd rfl hne⟩
  · have hl' : 0 < l.length := List.length_pos_iff.2 hl
    obtain ⟨g, cap, rfl, h1, h2, h3⟩ := h.form1 hl'
    exact ⟨_, cap, rfl, h3, h.2, fun _ => ⟨g, 0, rfl, h2, fun i x hx j u hu => by rw [Nat.zero_add]; exact h.cell hR hx hu⟩⟩
theorem OwG.ext {w w' : World} {base : Nat} {v : Value} {l : List α} (h : OwG R w base v l) (hb : Below w.heap.size w w') : OwG R w' base v l := by
  refine ⟨⟨h.1.1, h.1.2.imp id ?_⟩, h.2⟩
  rintro ⟨g, cap, cur, e, h1, h2, h3⟩
  exact ⟨g, cap, cur, e, h1, (hb.block g (Array.getElem?_eq_some_iff.1 h2).1).trans h2, h3⟩
theorem OwG.lay {w : World} {base : Nat} {v : Value} {l : List α} (h : OwG R w base v l) (L : List (Obj ⊕ Ext)) : OwG R (lay w L) base v l := h.ext (lay_extends w L)
theorem OwG.bw {w : World} {base : Nat} {v : Value} {l : List α} (h : OwG R w base v l) (d : Ext) : OwG R (bw w d) base v l := h.ext (bw_below w d)
theorem OwG.le {w : World} {base base' : Nat} {v : Value} {l : List α} (h : OwG R w base v l) (hb : base' ≤ base) : OwG R w base' v l := ⟨⟨h.1.1, h.1.2.imp id fun ⟨g, cap, cur, e, h1, h2⟩ => ⟨g, cap, cur, e, Nat.le_trans hb h1, h2⟩⟩, h.2⟩
theorem owG_on {w : World} {base : Nat} {v : Value} {l : List α} {A B : List (Obj ⊕ Ext)} (h : OwG R (lay w B) base v l) : OwG R (lay w (A ++ B)) base v l := h.ext lay_belowG

theorem push_rec (hR : RecOk R) {ops : Array Oper} {rest : List Oper} {o : Oper} {a : Act} {Q : Exit → Act → World → Prop} (hgd : o.guard = none) (s x : Operand)
    (ho : o.op = .call { callee := .builtin .append, args := #[s, x], argTypes := #[R.S, R.S] })
    (W0 : World) (wb : World) (c : α) (cs : Array Value) (te : TypeId) (xb : Nat) (v : Value) (l : List α) (hw : Below W0.heap.size W0 wb) (hown : OwG R wb W0.heap.size v l)
    (hcell : wb.heap[xb]? = some (.cells cs te (0, 0))) (hcs : cs.toList = R.enc c) (hs : a.eval s = v) (hx : a.eval x = .slice (some ⟨xb, 0, none⟩) 1 1)
    (hn : l.length ≤ 1000000000) (hc : R.wf c)
    (h : ∀ v' d, OwG R (Go.Proofs.YtnnmfdeeicpdlaaGreat.bw W0 d) W0.heap.size v' (l ++ [c]) → wpList Tryz.prog ops Q rest (a.put o.dst v') (Go.Proofs.YtnnmfdeeicpdlaaGreat.bw W0 d)) :
    wpList Tryz.prog ops Q (o :: rest) a wb := by
  obtain ⟨i, z, hi, hz0, hz1, hz2, hz3⟩ := hR.info
  have hM : maxLen = 9223372036854775807 := by decide
  have hb := hR.small
  have hb2 : (l.length + 1) * R.bytes ≤ 1000000001 * 1000 := Nat.mul_le_mul (by omega) hb
  refine wpList_append_lies wb hgd s x R.S ho W0.heap.size R.E i z R.k R.bytes hR.und hi hz0 hz1 hz2 hz3 hR.pos v l.length (l.flatMap R.enc) hs hown.1 ⟨xb, 0, none⟩ 1 1 (R.enc c) hx (by rw [hR.len, Nat.one_mul]) (by rw [← hcs]; exact World.news_of_block hcell) (hR.one c) (by decide) (by omega) (by omega) hw.size wb.heap.size rfl ?_
  intro g cap w' hown' hg hat _
  obtain ⟨d, hd⟩ := bw_of (w := W0) (w' := w') (hw.grown hg hw.size (fun k hk => (hown.1.lt k hk).1))
  subst hd
  refine h _ d ⟨?_, fun y hy => ?_⟩
  · rw [List.flatMap_append, List.length_append]
    simpa using hown'
  · rcases List.mem_append.1 hy with hy | hy
    · exact hown.2 y hy
    · rw [List.mem_singleton.1 hy]; exact hc
theorem push_slG (hR : RecOk R) {ops : Array Oper} {rest : List Oper} {o : Oper} {a : Act} {Q : Exit → Act → World → Prop} (hgd : o.guard = none) (s x : Operand)
    (ho : o.op = .call { callee := .builtin .append, args := #[s, x], argTypes := #[R.S, R.S] })
    (W0 : World) (wb : World) (v1 : Value) (l1 : List α) (A : Option Addr) (n c : Nat) (l2 : List α) (hw : Below W0.heap.size W0 wb) (hown : OwG R wb W0.heap.size v1 l1)
    (hsrc : SlG R wb (.slice A n c) l2) (hA : A = none → c = 0) (hs : a.eval s = v1) (hx : a.eval x = .slice A n c) (hn : l1.length + l2.length ≤ 1000000000)
    (h : ∀ v' d, OwG R (Go.Proofs.YtnnmfdeeicpdlaaGreat.bw W0 d) W0.heap.size v' (l1 ++ l2) → wpList Tryz.prog ops Q rest (a.put o.dst v') (Go.Proofs.YtnnmfdeeicpdlaaGreat.bw W0 d)) :
    wpList Tryz.prog ops Q (o :: rest) a wb := by
  obtain ⟨i, z, hi, hz0, hz1, hz2, hz3⟩ := hR.info
  have hM : maxLen = 9223372036854775807 := by decide
  obtain ⟨a', cap', he, hcc, hwf, hcell⟩ := hsrc
  simp only [Value.slice.injEq] at he
  obtain ⟨rfl, rfl, rfl⟩ := he
  cases A with
  | none =>
    obtain rfl := hA rfl
    have hl2 : l2 = [] := by
      rcases List.eq_nil_or_concat l2 with h | ⟨_, _, h⟩
      · exact h
      · have : l2 ≠ [] := by rw [h]; simp
        obtain ⟨_, _, h, _⟩ := hcell this
        cases h
    subst hl2
    obtain ⟨d, rfl⟩ := bw_of hw
    refine wpList_append_own_none hgd s x R.S ho W0.heap.size R.E i R.k hR.und hi v1 l1.length (l1.flatMap R.enc) hs hown.1 hx ?_
    exact h v1 d (by rw [List.append_nil]; exact hown)
  | some ad =>
    have hb2 : (l1.length + l2.length) * R.bytes ≤ 1000000000 * 1000 := Nat.mul_le_mul hn hR.small
    refine wpList_append_own wb hgd s x R.S ho W0.heap.size R.E i z R.k R.bytes hR.und hi hz0 hz1 hz2 hz3 hR.pos v1 l1.length (l1.flatMap R.enc) hs hown.1 ad l2.length c (l2.flatMap R.enc) hx (flat_len hR l2) ?_ ?_ (by omega) (by omega) hw.size ?_
    · intro j u hu
      have hj : j < l2.length * R.k := by have := (List.getElem?_eq_some_iff.1 hu).1; rw [flat_len hR] at this; exact this
      have hne : l2 ≠ [] := by intro e; rw [e] at hj; simp at hj
      obtain ⟨b, o', e, _, hr⟩ := hcell hne
      cases e
      have hq : j / R.k < l2.length := Nat.div_lt_of_lt_mul (by rw [Nat.mul_comm]; exact hj)
      have hm : j % R.k < R.k := Nat.mod_lt _ hR.pos
      have e1 : j = j / R.k * R.k + j % R.k := by rw [Nat.mul_comm]; exact (Nat.div_add_mod j R.k).symm
      have hx' : l2[j / R.k]? = some l2[j / R.k] := List.getElem?_eq_getElem hq
      rw [e1, flat_get hR hx' hm] at hu
      have h3 := hr _ _ hx' _ _ hu
      rw [← e1] at h3
      have hadd : (⟨b, o', none⟩ : Addr).add j = ⟨b, o' + j, none⟩ := by
        unfold Addr.add
        split
        · rename_i h0
          have : j = 0 := by simpa using h0
          subst this; rfl
        · rfl
      rw [hadd]
      exact h3
    · intro u hu
      obtain ⟨y, _, hy⟩ := List.mem_flatMap.1 hu
      exact hR.one y u hy
    · intro v' w' hown' hg _
      obtain ⟨d, hd⟩ := bw_of (w := W0) (w' := w') (hw.grown hg hw.size (fun k hk => (hown.1.lt k hk).1))
      subst hd
      refine h v' d ⟨by rw [List.length_append, List.flatMap_append]; exact hown', fun y hy => ?_⟩
      rcases List.mem_append.1 hy with hy | hy
      · exact hown.2 y hy
      · exact hwf y hy
theorem owG_empty (R : RecT α) {w : World} {L : List (Obj ⊕ Ext)} : OwG R (Go.Proofs.YtnnmfdeeicpdlaaGreat.lay w (.inl (.cells #[] R.E (0, 0)) :: L)) (Go.Proofs.YtnnmfdeeicpdlaaGreat.lay w L).heap.size (.slice (some ⟨posn w (shp L), 0, none⟩) 0 0) [] := by
  rw [← lay_size w L]
  exact ⟨World.ownsRow_lit (Go.Proofs.YtnnmfdeeicpdlaaGreat.lay w L) #[] 0 (Nat.le_refl _) (by decide) (by simp), fun _ h => absurd h (List.not_mem_nil)⟩
theorem owG_lit (hR : RecOk R) {w : World} {L : List (Obj ⊕ Ext)} {cs : Array Value} (l : List α) (hc : cs.toList = l.flatMap R.enc) (hl : l.length ≤ 1000) (hw : ∀ x ∈ l, R.wf x) :
    OwG R (Go.Proofs.YtnnmfdeeicpdlaaGreat.lay w (.inl (.cells cs R.E (0, 0)) :: L)) (Go.Proofs.YtnnmfdeeicpdlaaGreat.lay w L).heap.size (.slice (some ⟨posn w (shp L), 0, none⟩) l.length l.length) l := by
  rw [← lay_size w L]
  refine ⟨?_, hw⟩
  have := World.ownsRow_lit (base := (Go.Proofs.YtnnmfdeeicpdlaaGreat.lay w L).heap.size) (e := R.E) (size := R.k) (Go.Proofs.YtnnmfdeeicpdlaaGreat.lay w L) cs l.length (Nat.le_refl _) (by unfold maxLen; omega) (by rw [← Array.length_toList, hc, flat_len hR])
  rw [hc] at this
  exact this
end Go.Proofs.YtnnmfdeeicpdlaaGreat
/- A rotation of the plane by exact rationals, by about a unit of angle: sums of angles are exact, and each sine lies in the cell that the program finds. No program in sight. -/
namespace Go.Proofs.YtnnmfdeeicpdlaaGreat

theorem rabs {x y m f : Rat} (h1 : -m ≤ x) (h2 : x ≤ m) (h3 : -f ≤ y) (h4 : y ≤ f) : -(m * f) ≤ x * y ∧ x * y ≤ m * f := by
  have a1 := rmul0 (show 0 ≤ m - x by grind) (show 0 ≤ f + y by grind)
  have a2 := rmul0 (show 0 ≤ m + x by grind) (show 0 ≤ f - y by grind)
  have a3 := rmul0 (show 0 ≤ m - x by grind) (show 0 ≤ f - y by grind)
  have a4 := rmul0 (show 0 ≤ m + x by grind) (show 0 ≤ f + y by grind)
  constructor <;> grind
theorem sq_one {x y : Rat} (h : x * x + y * y = 1) : -1 ≤ x ∧ x ≤ 1 := by
  have hy : 0 ≤ y * y := by
    rcases (Rat.le_total : (0 : Rat) ≤ y ∨ y ≤ 0) with g | g
    · exact rmul0 g g
    · have := rmul0 (show 0 ≤ -y by grind) (show 0 ≤ -y by grind); grind
  constructor
  · rcases (Rat.le_total : ((-1) : Rat) ≤ x ∨ x ≤ (-1)) with g | g
    · exact g
    · have a := rmul0 (show 0 ≤ -1 - x by grind) (show 0 ≤ -1 - x by grind)
      grind
  · rcases (Rat.le_total : (x : Rat) ≤ 1 ∨ 1 ≤ x) with g | g
    · exact g
    · have a := rmul0 (show 0 ≤ x - 1 by grind) (show 0 ≤ x - 1 by grind)
      grind
theorem Nr.prod {a b c d e f m n : Rat} (h : Nr a b e) (g : Nr c d f) (a0 : -m ≤ a) (a1 : a ≤ m) (d0 : -n ≤ d) (d1 : d ≤ n) : Nr (a * c) (b * d) (m * f + n * e) := by
  obtain ⟨h1, h2⟩ := h
  obtain ⟨g1, g2⟩ := g
  obtain ⟨p1, p2⟩ := rabs a0 a1 (show -f ≤ c - d by grind) (show c - d ≤ f by grind)
  obtain ⟨q1, q2⟩ := rabs d0 d1 (show -e ≤ a - b by grind) (show a - b ≤ e by grind)
  constructor <;> grind
def c1R : Rat := (340282366920938463463374607431768211456 * 340282366920938463463374607431768211456 - 49492064077082142867227310776778 * 49492064077082142867227310776778) / (340282366920938463463374607431768211456 * 340282366920938463463374607431768211456 + 49492064077082142867227310776778 * 49492064077082142867227310776778)
def s1R : Rat := 2 * 49492064077082142867227310776778 * 340282366920938463463374607431768211456 / (340282366920938463463374607431768211456 * 340282366920938463463374607431768211456 + 49492064077082142867227310776778 * 49492064077082142867227310776778)
theorem unit1 : c1R * c1R + s1R * s1R = 1 := by decide +kernel
theorem unit_near : Nr s1R (23046538269650701392778 / k96) (1 / k96) ∧ Nr c1R (79228162514260985610427347966 / k96) (1 / k96) := by
  unfold Nr
  exact ⟨⟨by decide +kernel, by decide +kernel⟩, ⟨by decide +kernel, by decide +kernel⟩⟩
def zsc : Nat → Rat × Rat
  | 0 => (0, 1)
  | n + 1 => ((zsc n).1 * c1R + (zsc n).2 * s1R, (zsc n).2 * c1R - (zsc n).1 * s1R)
def zs (n : Nat) : Rat := (zsc n).1
def zc (n : Nat) : Rat := (zsc n).2
theorem zs_0 : zs 0 = 0 := rfl
theorem zc_0 : zc 0 = 1 := rfl
theorem zs_s (n : Nat) : zs (n + 1) = zs n * c1R + zc n * s1R := rfl
theorem zc_s (n : Nat) : zc (n + 1) = zc n * c1R - zs n * s1R := rfl
theorem z_unit : ∀ n, zs n * zs n + zc n * zc n = 1
  | 0 => by rw [zs_0, zc_0]; grind
  | n + 1 => by
    have h := z_unit n
    have u := unit1
    rw [zs_s, zc_s]
    generalize zs n = a at *
    generalize zc n = b at *
    grind
theorem z_add (a : Nat) : ∀ b, zs (a + b) = zs a * zc b + zc a * zs b ∧ zc (a + b) = zc a * zc b - zs a * zs b
  | 0 => by rw [Nat.add_zero, zs_0, zc_0]; constructor <;> grind
  | b + 1 => by
    obtain ⟨h1, h2⟩ := z_add a b
    rw [← Nat.add_assoc, zs_s, zc_s, zs_s, zc_s, h1, h2]
    constructor <;> grind
theorem z_sub {a b : Nat} (h : b ≤ a) : zs (a - b) = zs a * zc b - zc a * zs b ∧ zc (a - b) = zc a * zc b + zs a * zs b := by
  obtain ⟨h1, h2⟩ := z_add (a - b) b
  rw [Nat.sub_add_cancel h] at h1 h2
  have u := z_unit b
  rw [h1, h2]
  generalize zs (a - b) = x at *
  generalize zc (a - b) = y at *
  generalize zs b = p at *
  generalize zc b = q at *
  constructor <;> grind
def zS (n : Int) : Rat := if 0 ≤ n then zs n.toNat else -(zs (-n).toNat)
def zC (n : Int) : Rat := if 0 ≤ n then zc n.toNat else zc (-n).toNat
theorem zS_nat (n : Nat) : zS (n : Int) = zs n := by unfold zS; rw [if_pos (by omega)]; rfl
theorem zC_nat (n : Nat) : zC (n : Int) = zc n := by unfold zC; rw [if_pos (by omega)]; rfl
theorem zS_neg (n : Int) : zS (-n) = -(zS n) := by
  unfold zS
  rcases Int.lt_trichotomy n 0 with h | h | h
  · rw [if_pos (by omega), if_neg (by omega)]; grind
  · subst h
    simp only [Int.neg_zero, Int.le_refl, if_true]
    show zs 0 = -(zs 0)
    rw [zs_0]; grind
  · rw [if_neg (by omega), if_pos (by omega), Int.neg_neg]
theorem zC_neg (n : Int) : zC (-n) = zC n := by
  unfold zC
  rcases Int.lt_trichotomy n 0 with h | h | h
  · rw [if_pos (by omega), if_neg (by omega)]
  · subst h; rfl
  · rw [if_neg (by omega), if_pos (by omega), Int.neg_neg]
theorem Z_unit (n : Int) : zS n * zS n + zC n * zC n = 1 := by
  unfold zS zC
  split
  · exact z_unit _
  · have := z_unit (-n).toNat
    grind
theorem Z_addN (a b : Nat) : zS ((a : Int) - (b : Int)) = zs a * zc b - zc a * zs b ∧ zC ((a : Int) - (b : Int)) = zc a * zc b + zs a * zs b := by
  by_cases h : b ≤ a
  · rw [show (a : Int) - (b : Int) = ((a - b : Nat) : Int) by omega, zS_nat, zC_nat]
    exact z_sub h
  · obtain ⟨h1, h2⟩ := z_sub (a := b) (b := a) (by omega)
    rw [show (a : Int) - (b : Int) = -((b - a : Nat) : Int) by omega, zS_neg, zC_neg, zS_nat, zC_nat, h1, h2]
    constructor <;> grind
theorem Z_add (a b : Int) : zS (a + b) = zS a * zC b + zC a * zS b ∧ zC (a + b) = zC a * zC b - zS a * zS b := by
  have ha : ∃ m : Nat, a = (m : Int) ∨ a = -(m : Int) := ⟨a.natAbs, by omega⟩
  have hb : ∃ m : Nat, b = (m : Int) ∨ b = -(m : Int) := ⟨b.natAbs, by omega⟩
  obtain ⟨m, hm⟩ := ha
  obtain ⟨n, hn⟩ := hb
  rcases hm with rfl | rfl <;> rcases hn with rfl | rfl
  · obtain ⟨h1, h2⟩ := z_add m n
    rw [show (m : Int) + (n : Int) = ((m + n : Nat) : Int) by omega]
    simp only [zS_nat, zC_nat]
    exact ⟨h1, h2⟩
  · obtain ⟨h1, h2⟩ := Z_addN m n
    rw [show (m : Int) + -(n : Int) = (m : Int) - (n : Int) by omega, h1, h2]
    simp only [zS_nat, zC_nat, zS_neg, zC_neg]
    constructor <;> grind
  · obtain ⟨h1, h2⟩ := Z_addN n m
    rw [show -(m : Int) + (n : Int) = (n : Int) - (m : Int) by omega, h1, h2]
    simp only [zS_nat, zC_nat, zS_neg, zC_neg]
    constructor <;> grind
  · obtain ⟨h1, h2⟩ := z_add m n
    rw [show -(m : Int) + -(n : Int) = -((m + n : Nat) : Int) by omega]
    simp only [zS_nat, zC_nat, zS_neg, zC_neg]
    rw [h1, h2]
    constructor <;> grind
theorem Z_sub (a b : Int) : zS (a - b) = zS a * zC b - zC a * zS b ∧ zC (a - b) = zC a * zC b + zS a * zS b := by
  obtain ⟨h1, h2⟩ := Z_add a (-b)
  rw [Int.sub_eq_add_neg, h1, h2, zS_neg, zC_neg]
  constructor <;> grind
theorem Z_in (n : Int) : (-1 ≤ zS n ∧ zS n ≤ 1) ∧ -1 ≤ zC n ∧ zC n ≤ 1 := ⟨sq_one (Z_unit n), sq_one (y := zS n) (by have := Z_unit n; grind)⟩
theorem z_near : ∀ {r : Nat}, r ≤ 2700000 → Nr (zs r) (sinT r) (64 * (r : Rat) / k96) ∧ Nr (zc r) (cosT r) (64 * (r : Rat) / k96)
  | 0, _ => by
    rw [sin_zero, cos_zero, zs_0, zc_0]
    constructor
    · constructor <;> grind
    · constructor <;> grind
  | r + 1, h => by
    obtain ⟨h1, h2⟩ := z_near (r := r) (by omega)
    obtain ⟨h3, h4⟩ := one_near
    obtain ⟨u1, u2⟩ := unit_near
    have v1 := u1.trans h3
    have v2 := u2.trans h4
    have hs := sin_in (n := r) (by omega)
    have hx := xi_in (n := r) (by omega)
    have hc := cos_in (n := r) (by omega)
    have hs1 := sin_in (n := 1) (by omega)
    have hc1 := cos_in (n := 1) (by omega)
    have hx1 := xi_one
    have zu := z_unit r
    obtain ⟨z1, z2⟩ := sq_one zu
    obtain ⟨z3, z4⟩ := sq_one (x := zc r) (y := zs r) (by grind)
    have hr0 : (0 : Rat) ≤ (r : Rat) := by exact_mod_cast Nat.zero_le r
    have hr : (r : Rat) ≤ 2700000 := by exact_mod_cast (show r ≤ 2700000 by omega)
    have hk : 0 < 1 / k96 := by unfold k96; grind
    have he : eps ≤ 1 / k96 := by unfold eps k96; grind
    have p1 := h1.prod v2 z1 z2 (show -1 ≤ cosT 1 by grind) hc1.2
    have p2 := h2.prod v1 z3 z4 (show -(1 / 3437000) ≤ sinT 1 by grind) (show sinT 1 ≤ 1 / 3437000 by grind)
    have p3 := h2.prod v2 z3 z4 (show -1 ≤ cosT 1 by grind) hc1.2
    have p4 := h1.prod v1 z1 z2 (show -(1 / 3437000) ≤ sinT 1 by grind) (show sinT 1 ≤ 1 / 3437000 by grind)
    have q1 := (p1.add p2).trans (sin_step (n := r) (by omega)).symm
    have q2 := (p3.sub p4).trans (cos_step (n := r) (by omega)).symm
    rw [zs_s, zc_s]
    have e1 : 1 * (1 / k96 + 1 / k96) + 1 * (64 * (r : Rat) / k96) + (1 * (1 / k96 + 1 / k96) + 1 / 3437000 * (64 * (r : Rat) / k96)) + eps ≤ 64 * ((r + 1 : Nat) : Rat) / k96 := by
      have h5 := rmul hr0 hr (Rat.le_of_lt hk) (show 1 / k96 ≤ 1 / k96 by exact Rat.le_refl)
      push_cast
      grind
    exact ⟨q1.le e1, q2.le e1⟩
end Go.Proofs.YtnnmfdeeicpdlaaGreat
/- Rounded sums of series with alternating signs, by products that are rounded down; a circle with 192 binary digits. No program in sight. -/
namespace Go.Proofs.YtnnmfdeeicpdlaaGreat

def nexQ (M sq t d : Nat) : Nat := t * sq / M / (d * (d + 1))
def altQ (M sq : Nat) : Nat → Nat → Nat → Int
  | 0, _, _ => 0
  | f + 1, t, d => (t : Int) - altQ M sq f (nexQ M sq t d) (d + 2)
theorem nr_mulM {M a b : Nat} (hM : 0 < M) : Nr (((a * b / M : Nat) : Rat) / (M : Rat)) ((a : Rat) / (M : Rat) * ((b : Rat) / (M : Rat))) (3 / (M : Rat)) := by
  have h1 := Nat.div_mul_le_self (a * b) M
  have h2 : a * b < (a * b / M + 1) * M := Nat.lt_mul_of_div_lt (Nat.lt_succ_self _) hM
  have h3 : (a * b / M + 1) * M ≤ (a * b / M + 3) * M := Nat.mul_le_mul_right M (by omega)
  exact nr_mul (k := 3) hM h1 (Nat.le_trans (Nat.le_of_lt h2) h3)
theorem mulM_le {M a b : Nat} (hM : 0 < M) (hb : b ≤ M) : a * b / M ≤ a := by
  have := Nat.div_le_div_right (c := M) (Nat.mul_le_mul_left a hb)
  rwa [Nat.mul_div_cancel _ hM] at this
theorem nexQ_le {M sq t d : Nat} (hM : 0 < M) (hsq : sq ≤ M) (hd : 1 ≤ d) : nexQ M sq t d * 2 ≤ t := by
  unfold nexQ
  have h1 := mulM_le (a := t) hM hsq
  have h2 := Nat.div_mul_le_self (t * sq / M) (d * (d + 1))
  have h3 := Nat.mul_le_mul_left (t * sq / M / (d * (d + 1))) (dd_ge hd)
  omega
theorem altQ_zero {M sq : Nat} : ∀ {f d : Nat}, altQ M sq f 0 d = 0
  | 0, _ => rfl
  | f + 1, d => by
    have : nexQ M sq 0 d = 0 := by unfold nexQ; simp
    unfold altQ
    rw [this, altQ_zero]
    rfl
theorem altQ_more {M sq : Nat} (hM : 0 < M) (hsq : sq ≤ M) : ∀ {f t d : Nat}, 1 ≤ d → t < 2 ^ f → altQ M sq (f + 1) t d = altQ M sq f t d
  | 0, t, d, hd, ht => by
    obtain rfl : t = 0 := by omega
    rw [altQ_zero]; rfl
  | f + 1, t, d, hd, ht => by
    have hn := nexQ_le (t := t) hM hsq hd
    show (t : Int) - altQ M sq (f + 1) (nexQ M sq t d) (d + 2) = (t : Int) - altQ M sq f (nexQ M sq t d) (d + 2)
    rw [altQ_more hM hsq (f := f) (t := nexQ M sq t d) (d := d + 2) (by omega) (by rw [Nat.pow_succ] at ht; omega)]
theorem altQ_next {M sq f t d : Nat} (hM : 0 < M) (hsq : sq ≤ M) (hd : 1 ≤ d) (ht : t < 2 ^ f) : altQ M sq f t d = (t : Int) - altQ M sq f (nexQ M sq t d) (d + 2) := by
  have h := altQ_more hM hsq hd ht
  rw [← h]
  show (t : Int) - altQ M sq f (nexQ M sq t d) (d + 2) = _
  rfl
theorem altQ_ok {M sq : Nat} (hM : 0 < M) (hsq : sq ≤ M) : ∀ {f t d : Nat}, 1 ≤ d → t ≤ 2 ^ f → Nr ((altQ M sq f t d : Rat) / (M : Rat)) ((t : Rat) / (M : Rat) * (1 - tay ((sq : Rat) / (M : Rat)) d f)) ((1 + 3 * (f : Rat)) * (1 / (M : Rat)))
  | 0, t, d, hd, ht => by
    have hM2 : (0 : Rat) < (M : Rat) := by exact_mod_cast hM
    have hi : 0 ≤ 1 / (M : Rat) := by rw [Rat.div_def, Rat.one_mul]; exact Rat.le_of_lt (Rat.inv_pos.2 hM2)
    have h1 : (t : Rat) ≤ 1 := by exact_mod_cast ht
    have h0 : (0 : Rat) ≤ (t : Rat) := by exact_mod_cast Nat.zero_le t
    have h2 := rmul h0 h1 hi Rat.le_refl
    have h3 := rmul0 h0 hi
    unfold altQ tay
    have e0 : (((0 : Int) : Rat)) = 0 := rfl
    have e1 : (((0 : Nat) : Rat)) = 0 := rfl
    rw [e0, e1]
    constructor <;> grind
  | f + 1, t, d, hd, ht => by
    have hn := nexQ_le (t := t) hM hsq hd
    have ih := altQ_ok hM hsq (f := f) (t := nexQ M sq t d) (d := d + 2) (by omega) (by rw [Nat.pow_succ] at ht; omega)
    have hg := nr_mulM (a := t) (b := sq) hM
    have hdd := dd_ge hd
    have hq := nr_div (y := t * sq / M) hM (show 0 < d * (d + 1) by omega)
    simp only [altQ, tay]
    unfold nexQ at *
    have hM2 : (0 : Rat) < (M : Rat) := by exact_mod_cast hM
    have hi : 0 ≤ 1 / (M : Rat) := by rw [Rat.div_def, Rat.one_mul]; exact Rat.le_of_lt (Rat.inv_pos.2 hM2)
    have hy1 : (sq : Rat) / (M : Rat) ≤ 1 := by
      have := natB hM hsq
      rwa [show (M : Rat) / (M : Rat) = 1 by grind] at this
    have hy0 := nat0 (a := sq) hM
    obtain ⟨t0, t1⟩ := tay_in hy0 hy1 (m := f) (d := d + 2) (by omega)
    have h2 := two_le hd
    obtain ⟨r0, r1, r2⟩ := div_ge (show (0 : Rat) ≤ 1 by decide) h2
    have e1 : ((d * (d + 1) : Nat) : Rat) = (d : Rat) * ((d : Rat) + 1) := by push_cast; rfl
    rw [e1] at hq
    generalize t * sq / M / (d * (d + 1)) = n1 at *
    generalize ((t * sq / M : Nat) : Rat) / (M : Rat) = H at *
    generalize hk : (d : Rat) * ((d : Rat) + 1) = k at *
    generalize hT : tay ((sq : Rat) / (M : Rat)) (d + 2) f = T at *
    generalize (sq : Rat) / (M : Rat) = Y at *
    generalize altQ M sq f n1 (d + 2) = A at *
    have hg2 := hg.mulc r0 r1 hg.pos
    have e2 : 1 / k * H = H / k := by grind
    have e3 : 1 / k * ((t : Rat) / (M : Rat) * Y) = (t : Rat) / (M : Rat) * Y / k := by grind
    rw [e2, e3] at hg2
    have h5 := hq.trans hg2
    have h6 := h5.mulc (c := 1 - T) (m := 1) (by grind) (by grind) h5.pos
    have h7 := ih.trans (by rw [Rat.mul_comm]; exact h6)
    have h8 := (Nr.refl ((t : Rat) / (M : Rat))).sub h7
    have e4 : (((t : Int) - A : Int) : Rat) / (M : Rat) = (t : Rat) / (M : Rat) - (A : Rat) / (M : Rat) := by push_cast; grind
    have e5 : (t : Rat) / (M : Rat) * (1 - Y / k * (1 - T)) = (t : Rat) / (M : Rat) - (1 - T) * ((t : Rat) / (M : Rat) * Y / k) := by grind
    rw [e4, e5]
    refine h8.le ?_
    push_cast
    grind
def m192 : Nat := 6277101735386680763835789423207666416102355444464034512896
def piA : Nat := piN / 18446744073709551616
def tA (k : Nat) : Nat := k * piA / 10800000
def sqA (k : Nat) : Nat := tA k * tA k / m192
def sinA (k : Nat) : Int := altQ m192 (sqA k) 200 (tA k) 2
def cosA (k : Nat) : Int := altQ m192 (sqA k) 200 m192 1
theorem m192_pos : 0 < m192 := by decide +kernel
theorem m192_pow : m192 = 18446744073709551616 ^ 3 := by decide +kernel
end Go.Proofs.YtnnmfdeeicpdlaaGreat
/- The circle with 192 binary digits is near to the exact rotation. No program in sight. -/
namespace Go.Proofs.YtnnmfdeeicpdlaaGreat

theorem m192_rat : (0 : Rat) < (m192 : Rat) := by exact_mod_cast m192_pos
theorem m192_big : 1 / (m192 : Rat) ≤ 1 / 100000000000000000000000000000000000000000 := by
  have h : 100000000000000000000000000000000000000000 ≤ m192 := by decide +kernel
  have h2 : (100000000000000000000000000000000000000000 : Rat) ≤ (m192 : Rat) := by exact_mod_cast h
  refine Rat.le_of_mul_le_mul_right (c := (m192 : Rat)) ?_ m192_rat
  rw [Rat.div_mul_cancel (by have := m192_rat; grind)]
  grind
theorem piA_ok : piA * 18446744073709551616 ≤ piN ∧ piN ≤ (piA + 1) * 18446744073709551616 := by decide +kernel
theorem piD_at : piD = 18446744073709551616 * (m192 * 10800000) := by decide +kernel
theorem tA_near {k : Nat} (hk : k ≤ 2700000) : Nr ((tA k : Rat) / (m192 : Rat)) (xi k) (2 / (m192 : Rat)) := by
  obtain ⟨u1, u2⟩ := piA_ok
  have h1 := nfl (a := k * piA) (K := 10800000) (by decide)
  change Nr ((tA k : Nat) : Rat) _ _ at h1
  have hM := m192_rat
  have v1 : (piA : Rat) * 18446744073709551616 ≤ (piN : Rat) := by
    have := Rat.natCast_le_natCast.2 u1
    rw [Rat.natCast_mul] at this
    exact this
  have v2 : (piN : Rat) ≤ ((piA : Rat) + 1) * 18446744073709551616 := by
    have := Rat.natCast_le_natCast.2 u2
    rw [Rat.natCast_mul, Rat.natCast_add] at this
    exact this
  have hD : (piD : Rat) = 18446744073709551616 * ((m192 : Rat) * 10800000) := by
    have : ((piD : Nat) : Rat) = ((18446744073709551616 * (m192 * 10800000) : Nat) : Rat) := by rw [← piD_at]
    rw [this, Rat.natCast_mul, Rat.natCast_mul]
    rfl
  have hk2 : (k : Rat) ≤ 2700000 := by exact_mod_cast hk
  have hk0 : (0 : Rat) ≤ (k : Rat) := by exact_mod_cast Nat.zero_le k
  unfold xi
  rw [hD]
  rw [Rat.natCast_mul] at h1
  have hK : ((10800000 : Nat) : Rat) = 10800000 := rfl
  rw [hK] at h1
  generalize (piN : Rat) = N at *
  generalize (piA : Rat) = P at *
  generalize ((tA k : Nat) : Rat) = T at *
  generalize (m192 : Rat) = M at *
  obtain ⟨a1, a2⟩ := h1
  have hi : 0 < 1 / M := by rw [Rat.div_def, Rat.one_mul]; exact Rat.inv_pos.2 hM
  have y1 := Rat.mul_le_mul_of_nonneg_left v1 hk0
  have y2 := Rat.mul_le_mul_of_nonneg_left v2 hk0
  have e1 : (k : Rat) * (N / (18446744073709551616 * (M * 10800000))) = (k : Rat) * N / 18446744073709551616 / 10800000 * (1 / M) := by grind
  have e2 : T / M = T * (1 / M) := by grind
  have e3 : 2 / M = 2 * (1 / M) := by grind
  rw [e1, e2, e3]
  have b1 : T ≤ (k : Rat) * N / 18446744073709551616 / 10800000 + 2 := by grind
  have b2 : (k : Rat) * N / 18446744073709551616 / 10800000 ≤ T + 2 := by grind
  have c1 := Rat.mul_le_mul_of_nonneg_right b1 (Rat.le_of_lt hi)
  have c2 := Rat.mul_le_mul_of_nonneg_right b2 (Rat.le_of_lt hi)
  constructor <;> grind
theorem sqA_near {r : Nat} (hr : r ≤ 2700000) : sqA r ≤ m192 ∧ tA r ≤ m192 ∧ Nr ((sqA r : Rat) / (m192 : Rat)) (xi r * xi r) (7 / (m192 : Rat)) ∧ (tA r : Rat) / (m192 : Rat) ≤ 1 := by
  have hn := tA_near hr
  have hx4 := xi_in (n := r) (by omega)
  have hb := m192_big
  have hx1 : (tA r : Rat) / (m192 : Rat) ≤ 1 := by
    obtain ⟨a, b⟩ := hn; grind
  have hx2 : tA r ≤ m192 := by
    have h0 := m192_rat
    have := Rat.mul_le_mul_of_nonneg_right hx1 (Rat.le_of_lt h0)
    rw [Rat.div_mul_cancel (by grind), Rat.one_mul] at this
    exact_mod_cast this
  have hg := nr_mulM (a := tA r) (b := tA r) m192_pos
  have hx0 : 0 ≤ (tA r : Rat) / (m192 : Rat) := nat0 m192_pos
  have hp := hn.mul hn hx0 hx1 hx4.1 (show xi r ≤ 1 by grind)
  exact ⟨Nat.le_trans (mulM_le m192_pos hx2) hx2, hx2, (hg.trans hp).le (by grind), hx1⟩
theorem m192_fuel : m192 ≤ 2 ^ 200 := by decide +kernel
theorem sinA_near {r : Nat} (hr : r ≤ 2700000) : Nr ((sinA r : Rat) / (m192 : Rat)) (sinT r) sml := by
  obtain ⟨h1, h2, h3, h4⟩ := sqA_near hr
  have hx4 := xi_in (n := r) (by omega)
  have hq := sq_in hx4
  have ha := altQ_ok m192_pos h1 (f := 200) (t := tA r) (d := 2) (by decide) (Nat.le_trans h2 m192_fuel)
  have hb := m192_big
  have hy0 : 0 ≤ (sqA r : Rat) / (m192 : Rat) := nat0 m192_pos
  have hy1 : (sqA r : Rat) / (m192 : Rat) ≤ 1 := by obtain ⟨a, b⟩ := h3; grind
  have hx0 : 0 ≤ (tA r : Rat) / (m192 : Rat) := nat0 m192_pos
  have g1 := tay_arg hy0 hy1 hq.1 (by grind) h3 (m := 200) (d := 2) (by decide)
  have g2 := tay_more hq.1 (by grind) 186 (m := 14) (d := 2) (by decide)
  have g3 := (Nr.refl 1).sub (g1.trans g2)
  obtain ⟨t0, t1⟩ := tay_in hq.1 (by grind) (m := 14) (d := 2) (by decide)
  have g4 := (tA_near hr).mul g3 hx0 h4 (show 0 ≤ 1 - tay (xi r * xi r) 2 14 by grind) (show 1 - tay (xi r * xi r) 2 14 ≤ 1 by grind)
  have hf := facT_sml (d := 2) (by decide +kernel)
  have hm : 0 ≤ 1 / (m192 : Rat) := by rw [Rat.div_def, Rat.one_mul]; exact Rat.le_of_lt (Rat.inv_pos.2 m192_rat)
  unfold sinT sinA
  refine (ha.trans g4).le ?_
  have e64 : ((200 : Nat) : Rat) = 200 := rfl
  rw [e64]
  unfold sml at *
  generalize (m192 : Rat) = M at *
  grind
theorem cosA_near {r : Nat} (hr : r ≤ 2700000) : Nr ((cosA r : Rat) / (m192 : Rat)) (cosT r) sml := by
  obtain ⟨h1, h2, h3, h4⟩ := sqA_near hr
  have hx4 := xi_in (n := r) (by omega)
  have hq := sq_in hx4
  have ha := altQ_ok m192_pos h1 (f := 200) (t := m192) (d := 1) (by decide) m192_fuel
  have hb := m192_big
  have hy0 : 0 ≤ (sqA r : Rat) / (m192 : Rat) := nat0 m192_pos
  have hy1 : (sqA r : Rat) / (m192 : Rat) ≤ 1 := by obtain ⟨a, b⟩ := h3; grind
  have g1 := tay_arg hy0 hy1 hq.1 (by grind) h3 (m := 200) (d := 1) (by decide)
  have g2 := tay_more hq.1 (by grind) 186 (m := 14) (d := 1) (by decide)
  have g3 := (Nr.refl 1).sub (g1.trans g2)
  have hf := facT_sml (d := 1) (by decide +kernel)
  have hm : 0 ≤ 1 / (m192 : Rat) := by rw [Rat.div_def, Rat.one_mul]; exact Rat.le_of_lt (Rat.inv_pos.2 m192_rat)
  have hmm : (m192 : Rat) / (m192 : Rat) = 1 := by have := m192_rat; grind
  unfold cosT cosA
  rw [hmm, Rat.one_mul] at ha
  refine (ha.trans g3).le ?_
  have e64 : ((200 : Nat) : Rat) = 200 := rfl
  rw [e64]
  unfold sml at *
  generalize (m192 : Rat) = M at *
  grind
def siA (k : Nat) : Int := if 2700000 < k then cosA (5400000 - k) else sinA k
def coA (k : Nat) : Int := if 2700000 < k then sinA (5400000 - k) else cosA k
end Go.Proofs.YtnnmfdeeicpdlaaGreat
