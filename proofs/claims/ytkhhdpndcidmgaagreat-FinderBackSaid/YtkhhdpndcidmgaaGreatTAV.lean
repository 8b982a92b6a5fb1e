/- Contracts and plain laws, several texts in one: Row -/
import Derived.Test.YtkhhdpndcidmgaaGreatProg
import Derived.WalkKit
import Derived.WalkSpells
import Derived.WalkLawsBesides
import Derived.Lib.Hide
import Derived.BigQuiet
import Derived.Deep.Slices
import Derived.Deep.AppendLies
import Derived.Maps.AppendAt
import Derived.Laws.AppendOwnNone
import Derived.Laws.OwnMore
import Derived.WideShapes
import Derived.Lib.SmallJoins
import Derived.Test.YtkhhdpndcidmgaaGreatTAE
import Derived.Test.YtkhhdpndcidmgaaGreatTAF
import Derived.Test.YtkhhdpndcidmgaaGreatTAI
/- Rows of records of k cells: slices that read as a list, rows of the call's own, an append of one record or of a whole slice, a store into a record. No function of the program. -/
namespace Go.Proofs.YtkhhdpndcidmgaaGreat
open Go.RowKit

structure RecT (α : Type) where
  E : TypeId
  S : TypeId
  k : Nat
  bytes : Nat
  enc : α → List Value
  wf : α → Prop
structure RecOk {α : Type} (R : RecT α) : Prop where
  len : ∀ x, (R.enc x).length = R.k
  one : ∀ x, ∀ u ∈ R.enc x, u.oneCell' = true
  pos : 0 < R.k
  und : Tryz.prog.underlying R.S = some (.slice R.E)
  info : ∃ i z, Tryz.prog.info? R.E = some i ∧ i.zero = some z ∧ i.size = R.k ∧ i.bytes = R.bytes ∧ z.cells.size = R.k
  small : R.bytes ≤ 1000
variable {α : Type} {R : RecT α}

theorem flat_len (hR : RecOk R) (l : List α) : (l.flatMap R.enc).length = l.length * R.k := by
  induction l with
  | nil => simp
  | cons x l ih => rw [List.flatMap_cons, List.length_append, hR.len, ih, List.length_cons, Nat.succ_mul, Nat.add_comm]
theorem flat_get (hR : RecOk R) : ∀ {l : List α} {i j : Nat} {x : α}, l[i]? = some x → j < R.k → (l.flatMap R.enc)[i * R.k + j]? = (R.enc x)[j]?
  | [], i, j, x, h, _ => by simp at h
  | y :: l, 0, j, x, h, hj => by
    simp only [List.getElem?_cons_zero, Option.some.injEq] at h
    subst h
    rw [List.flatMap_cons, List.getElem?_append_left (by rw [hR.len]; omega)]
    congr 1; omega
  | y :: l, i + 1, j, x, h, hj => by
    rw [List.getElem?_cons_succ] at h
    rw [List.flatMap_cons, List.getElem?_append_right (by rw [hR.len, Nat.succ_mul]; omega), hR.len]
    rw [show (i + 1) * R.k + j - R.k = i * R.k + j by rw [Nat.succ_mul]; omega]
    exact flat_get hR h hj
def SlG (R : RecT α) (w : World) (v : Value) (l : List α) : Prop :=
  ∃ a cap, v = .slice a l.length cap ∧ (l.length ≤ cap ∧ cap ≤ 9223372036854775807) ∧ (∀ x ∈ l, R.wf x) ∧
    (l ≠ [] → ∃ b o, a = some ⟨b, o, none⟩ ∧ b < w.heap.size ∧ ∀ (i : Nat) x, l[i]? = some x → ∀ (j : Nat) u, (R.enc x)[j]? = some u → w.cell? ⟨b, o + (i * R.k + j), none⟩ = some u)
theorem SlG.ext {w w' : World} {v : Value} {l : List α} (h : SlG R w v l) (hb : Below w.heap.size w w') : SlG R w' v l := by
  obtain ⟨a, cap, h1, h2, h0, h3⟩ := h
  refine ⟨a, cap, h1, h2, h0, fun hl => ?_⟩
  obtain ⟨b, o, h4, h5, h6⟩ := h3 hl
  exact ⟨b, o, h4, Nat.lt_of_lt_of_le h5 hb.size, fun i x hx j u hu => (hb.cell (p := ⟨b, o + (i * R.k + j), none⟩) h5).trans (h6 i x hx j u hu)⟩
theorem SlG.bw {w : World} {v : Value} {l : List α} (h : SlG R w v l) (d : Ext) : SlG R (bw w d) v l := h.ext (bw_below w d)
theorem SlG.lay {w : World} {v : Value} {l : List α} (h : SlG R w v l) (L : List (Obj ⊕ Ext)) : SlG R (lay w L) v l := h.ext (lay_extends w L)
theorem lay_appG (w : World) (A B : List (Obj ⊕ Ext)) : lay w (A ++ B) = lay (lay w B) A := by
  induction A with
  | nil => rfl
  | cons x A ih =>
    cases x with
    | inl o => exact congrArg (fun W => World.alloc W o) ih
    | inr d => exact congrArg (fun W => Go.Proofs.YtkhhdpndcidmgaaGreat.bw W d) ih
theorem lay_belowG {w : World} {A B : List (Obj ⊕ Ext)} : Below (lay w B).heap.size (lay w B) (lay w (A ++ B)) := by rw [lay_appG]; exact lay_extends _ _
theorem slG_on {w : World} {v : Value} {l : List α} {A B : List (Obj ⊕ Ext)} (h : SlG R (lay w B) v l) : SlG R (lay w (A ++ B)) v l := h.ext lay_belowG
theorem SlG.nil (R : RecT α) (w : World) : SlG R w (.slice none 0 0) [] := ⟨none, 0, rfl, by simp, fun _ h => absurd h (List.not_mem_nil), fun h => absurd rfl h⟩
theorem SlG.open {w : World} {v : Value} {l : List α} (h : SlG R w v l) (hl : 0 < l.length) :
    ∃ b o cap, v = .slice (some ⟨b, o, none⟩) l.length cap ∧ (l.length ≤ cap ∧ cap ≤ 9223372036854775807) ∧ b < w.heap.size ∧ ∀ (i : Nat) x, l[i]? = some x → ∀ (j : Nat) u, (R.enc x)[j]? = some u → w.cell? ⟨b, o + (i * R.k + j), none⟩ = some u := by
  obtain ⟨a, cap, rfl, h2, _, h3⟩ := h
  obtain ⟨b, o, rfl, h5, h6⟩ := h3 (by intro e; rw [e] at hl; exact Nat.lt_irrefl 0 hl)
  exact ⟨b, o, cap, rfl, h2, h5, h6⟩
theorem SlG.wf {w : World} {v : Value} {l : List α} (h : SlG R w v l) : ∀ x ∈ l, R.wf x := by
  obtain ⟨_, _, _, _, h, _⟩ := h; exact h
theorem SlG.form {w : World} {v : Value} {l : List α} (h : SlG R w v l) : ∃ a cap, v = .slice a l.length cap := by
  obtain ⟨a, c, e, _⟩ := h; exact ⟨a, c, e⟩
def OwG (R : RecT α) (w : World) (base : Nat) (v : Value) (l : List α) : Prop :=
  w.ownsRow base R.E R.k v l.length (l.flatMap R.enc) ∧ ∀ x ∈ l, R.wf x
theorem OwG.nil (R : RecT α) (w : World) (base : Nat) : OwG R w base (.slice none 0 0) [] := ⟨World.ownsRow_nil w base _ _, fun _ h => absurd h (List.not_mem_nil)⟩
theorem OwG.form {w : World} {base : Nat} {v : Value} {l : List α} (h : OwG R w base v l) : ∃ a cap, v = .slice a l.length cap := by
  rcases h.1.2 with ⟨rfl, hz⟩ | ⟨g, cap, cur, rfl, _⟩
  · exact ⟨none, 0, by rw [hz]⟩
  · exact ⟨_, cap, rfl⟩
theorem OwG.form1 {w : World} {base : Nat} {v : Value} {l : List α} (h : OwG R w base v l) (hl : 0 < l.length) : ∃ g cap, v = .slice (some ⟨g, 0, none⟩) l.length cap ∧ base ≤ g ∧ g < w.heap.size ∧ l.length ≤ cap ∧ cap ≤ 9223372036854775807 := by
  rcases h.1.2 with ⟨rfl, hz⟩ | ⟨g, cap, cur, rfl, h1, h2, h3, h4, _⟩
  · omega
  · have hM : maxLen = 9223372036854775807 := by decide
    exact ⟨g, cap, rfl, h1, (Array.getElem?_eq_some_iff.1 h2).1, h3, by omega⟩
theorem OwG.cell (hR : RecOk R) {w : World} {base g cap n : Nat} {l : List α} (h : OwG R w base (.slice (some ⟨g, 0, none⟩) n cap) l) {i j : Nat} {x : α} {u : Value} (hx : l[i]? = some x) (hu : (R.enc x)[j]? = some u) : w.cell? ⟨g, i * R.k + j, none⟩ = some u := by
  have hn : n = l.length := by
    obtain ⟨a, c, e⟩ := h.form
    cases e; rfl
  subst hn
  have hi := (List.getElem?_eq_some_iff.1 hx).1
  have hj : j < R.k := by have := (List.getElem?_eq_some_iff.1 hu).1; rw [hR.len] at this; exact this
  rw [h.1.cellAt _ (by have : (i + 1) * R.k ≤ l.length * R.k := Nat.mul_le_mul_right _ hi
                       rw [Nat.succ_mul] at this; omega), flat_get hR hx hj, hu]
theorem OwG.froz {w : World} {base g cap n : Nat} {l : List α} (h : OwG R w base (.slice (some ⟨g, 0, none⟩) n cap) l) (j : Nat) : w.frozen? ⟨g, j, none⟩ = false := by
  have hn : n = l.length := by
    obtain ⟨a, c, e⟩ := h.form
    cases e; rfl
  subst hn
  exact h.1.frozenAt j
theorem OwG.sl (hR : RecOk R) {w : World} {base : Nat} {v : Value} {l : List α} (h : OwG R w base v l) : SlG R w v l := by
  by_cases hl : l = []
  · subst hl
    rcases h.1.2 with ⟨rfl, hz⟩ | ⟨g, cap, cur, rfl, _, _, h3, h4, _⟩
    · exact SlG.nil R w
    · have hM : maxLen = 9223372036854775807 := by decide
      exact ⟨_, cap, rfl, ⟨h3, by omega⟩, h.2, fun hne => absurd rfl hne⟩
  · have hl' : 0 < l.length := List.length_pos_iff.2 hl
    obtain ⟨g, cap, rfl, h1, h2, h3⟩ := h.form1 hl'
    exact ⟨_, cap, rfl, h3, h.2, fun _ => ⟨g, 0, rfl, h2, fun i x hx j u hu => by rw [Nat.zero_add]; exact h.cell hR hx hu⟩⟩
theorem OwG.ext {w w' : World} {base : Nat} {v : Value} {l : List α} (h : OwG R w base v l) (hb : Below w.heap.size w w') : OwG R w' base v l := by
  refine ⟨⟨h.1.1, h.1.2.imp id ?_⟩, h.2⟩
  rintro ⟨g, cap, cur, e, h1, h2, h3⟩
  exact ⟨g, cap, cur, e, h1, (hb.block g (Array.getElem?_eq_some_iff.1 h2).1).trans h2, h3⟩
theorem OwG.lay {w : World} {base : Nat} {v : Value} {l : List α} (h : OwG R w base v l) (L : List (Obj ⊕ Ext)) : OwG R (lay w L) base v l := h.ext (lay_extends w L)
theorem OwG.bw {w : World} {base : Nat} {v : Value} {l : List α} (h : OwG R w base v l) (d : Ext) : OwG R (bw w d) base v l := h.ext (bw_below w d)
theorem OwG.le {w : World} {base base' : Nat} {v : Value} {l : List α} (h : OwG R w base v l) (hb : base' ≤ base) : OwG R w base' v l := ⟨⟨h.1.1, h.1.2.imp id fun ⟨g, cap, cur, e, h1, h2⟩ => ⟨g, cap, cur, e, Nat.le_trans hb h1, h2⟩⟩, h.2⟩
theorem owG_on {w : World} {base : Nat} {v : Value} {l : List α} {A B : List (Obj ⊕ Ext)} (h : OwG R (lay w B) base v l) : OwG R (lay w (A ++ B)) base v l := h.ext lay_belowG

theorem push_rec (hR : RecOk R) {ops : Array Oper} {rest : List Oper} {o : Oper} {a : Act} {Q : Exit → Act → World → Prop} (hgd : o.guard = none) (s x : Operand)
    (ho : o.op = .call { callee := .builtin .append, args := #[s, x], argTypes := #[R.S, R.S] })
    (W0 : World) (wb : World) (c : α) (cs : Array Value) (te : TypeId) (xb : Nat) (v : Value) (l : List α) (hw : Below W0.heap.size W0 wb) (hown : OwG R wb W0.heap.size v l)
    (hcell : wb.heap[xb]? = some (.cells cs te (0, 0))) (hcs : cs.toList = R.enc c) (hs : a.eval s = v) (hx : a.eval x = .slice (some ⟨xb, 0, none⟩) 1 1)
    (hn : l.length ≤ 1000000000) (hc : R.wf c)
    (h : ∀ v' d, OwG R (Go.Proofs.YtkhhdpndcidmgaaGreat.bw W0 d) W0.heap.size v' (l ++ [c]) → wpList Tryz.prog ops Q rest (a.put o.dst v') (Go.Proofs.YtkhhdpndcidmgaaGreat.bw W0 d)) :
    wpList Tryz.prog ops Q (o :: rest) a wb := by
  obtain ⟨i, z, hi, hz0, hz1, hz2, hz3⟩ := hR.info
  have hM : maxLen = 9223372036854775807 := by decide
  have hb := hR.small
  have hb2 : (l.length + 1) * R.bytes ≤ 1000000001 * 1000 := Nat.mul_le_mul (by omega) hb
  refine wpList_append_lies wb hgd s x R.S ho W0.heap.size R.E i z R.k R.bytes hR.und hi hz0 hz1 hz2 hz3 hR.pos v l.length (l.flatMap R.enc) hs hown.1 ⟨xb, 0, none⟩ 1 1 (R.enc c) hx (by rw [hR.len, Nat.one_mul]) (by rw [← hcs]; exact World.news_of_block hcell) (hR.one c) (by decide) (by omega) (by omega) hw.size wb.heap.size rfl ?_
  intro g cap w' hown' hg hat _
  obtain ⟨d, hd⟩ := bw_of (w := W0) (w' := w') (hw.grown hg hw.size (fun k hk => (hown.1.lt k hk).1))
  subst hd
  refine h _ d ⟨?_, fun y hy => ?_⟩
  · rw [List.flatMap_append, List.length_append]
    simpa using hown'
  · rcases List.mem_append.1 hy with hy | hy
    · exact hown.2 y hy
    · rw [List.mem_singleton.1 hy]; exact hc
theorem push_slG (hR : RecOk R) {ops : Array Oper} {rest : List Oper} {o : Oper} {a : Act} {Q : Exit → Act → World → Prop} (hgd : o.guard = none) (s x : Operand)
    (ho : o.op = .call { callee := .builtin .append, args := #[s, x], argTypes := #[R.S, R.S] })
    (W0 : World) (wb : World) (v1 : Value) (l1 : List α) (A : Option Addr) (n c : Nat) (l2 : List α) (hw : Below W0.heap.size W0 wb) (hown : OwG R wb W0.heap.size v1 l1)
    (hsrc : SlG R wb (.slice A n c) l2) (hA : A = none → c = 0) (hs : a.eval s = v1) (hx : a.eval x = .slice A n c) (hn : l1.length + l2.length ≤ 1000000000)
    (h : ∀ v' d, OwG R (Go.Proofs.YtkhhdpndcidmgaaGreat.bw W0 d) W0.heap.size v' (l1 ++ l2) → wpList Tryz.prog ops Q rest (a.put o.dst v') (Go.Proofs.YtkhhdpndcidmgaaGreat.bw W0 d)) :
    wpList Tryz.prog ops Q (o :: rest) a wb := by
  obtain ⟨i, z, hi, hz0, hz1, hz2, hz3⟩ := hR.info
  have hM : maxLen = 9223372036854775807 := by decide
  obtain ⟨a', cap', he, hcc, hwf, hcell⟩ := hsrc
  simp only [Value.slice.injEq] at he
  obtain ⟨rfl, rfl, rfl⟩ := he
  cases A with
  | none =>
    obtain rfl := hA rfl
    have hl2 : l2 = [] := by
      rcases List.eq_nil_or_concat l2 with h | ⟨_, _, h⟩
      · exact h
      · have : l2 ≠ [] := by rw [h]; simp
        obtain ⟨_, _, h, _⟩ := hcell this
        cases h
    subst hl2
    obtain ⟨d, rfl⟩ := bw_of hw
    refine wpList_append_own_none hgd s x R.S ho W0.heap.size R.E i R.k hR.und hi v1 l1.length (l1.flatMap R.enc) hs hown.1 hx ?_
    exact h v1 d (by rw [List.append_nil]; exact hown)
  | some ad =>
    have hb2 : (l1.length + l2.length) * R.bytes ≤ 1000000000 * 1000 := Nat.mul_le_mul hn hR.small
    refine wpList_append_own wb hgd s x R.S ho W0.heap.size R.E i z R.k R.bytes hR.und hi hz0 hz1 hz2 hz3 hR.pos v1 l1.length (l1.flatMap R.enc) hs hown.1 ad l2.length c (l2.flatMap R.enc) hx (flat_len hR l2) ?_ ?_ (by omega) (by omega) hw.size ?_
    · intro j u hu
      have hj : j < l2.length * R.k := by have := (List.getElem?_eq_some_iff.1 hu).1; rw [flat_len hR] at this; exact this
      have hne : l2 ≠ [] := by intro e; rw [e] at hj; simp at hj
      obtain ⟨b, o', e, _, hr⟩ := hcell hne
      cases e
      have hq : j / R.k < l2.length := Nat.div_lt_of_lt_mul (by rw [Nat.mul_comm]; exact hj)
      have hm : j % R.k < R.k := Nat.mod_lt _ hR.pos
      have e1 : j = j / R.k * R.k + j % R.k := by rw [Nat.mul_comm]; exact (Nat.div_add_mod j R.k).symm
      have hx' : l2[j / R.k]? = some l2[j / R.k] := List.getElem?_eq_getElem hq
      rw [e1, flat_get hR hx' hm] at hu
      have h3 := hr _ _ hx' _ _ hu
      rw [← e1] at h3
      have hadd : (⟨b, o', none⟩ : Addr).add j = ⟨b, o' + j, none⟩ := by
        unfold Addr.add
        split
        · rename_i h0
          have : j = 0 := by simpa using h0
          subst this; rfl
        · rfl
      rw [hadd]
      exact h3
    · intro u hu
      obtain ⟨y, _, hy⟩ := List.mem_flatMap.1 hu
      exact hR.one y u hy
    · intro v' w' hown' hg _
      obtain ⟨d, hd⟩ := bw_of (w := W0) (w' := w') (hw.grown hg hw.size (fun k hk => (hown.1.lt k hk).1))
      subst hd
      refine h v' d ⟨by rw [List.length_append, List.flatMap_append]; exact hown', fun y hy => ?_⟩
      rcases List.mem_append.1 hy with hy | hy
      · exact hown.2 y hy
      · exact hwf y hy
theorem owG_empty (R : RecT α) {w : World} {L : List (Obj ⊕ Ext)} : OwG R (Go.Proofs.YtkhhdpndcidmgaaGreat.lay w (.inl (.cells #[] R.E (0, 0)) :: L)) (Go.Proofs.YtkhhdpndcidmgaaGreat.lay w L).heap.size (.slice (some ⟨posn w (shp L), 0, none⟩) 0 0) [] := by
  rw [← lay_size w L]
  exact ⟨World.ownsRow_lit (Go.Proofs.YtkhhdpndcidmgaaGreat.lay w L) #[] 0 (Nat.le_refl _) (by decide) (by simp), fun _ h => absurd h (List.not_mem_nil)⟩
theorem owG_lit (hR : RecOk R) {w : World} {L : List (Obj ⊕ Ext)} {cs : Array Value} (l : List α) (hc : cs.toList = l.flatMap R.enc) (hl : l.length ≤ 1000) (hw : ∀ x ∈ l, R.wf x) :
    OwG R (Go.Proofs.YtkhhdpndcidmgaaGreat.lay w (.inl (.cells cs R.E (0, 0)) :: L)) (Go.Proofs.YtkhhdpndcidmgaaGreat.lay w L).heap.size (.slice (some ⟨posn w (shp L), 0, none⟩) l.length l.length) l := by
  rw [← lay_size w L]
  refine ⟨?_, hw⟩
  have := World.ownsRow_lit (base := (Go.Proofs.YtkhhdpndcidmgaaGreat.lay w L).heap.size) (e := R.E) (size := R.k) (Go.Proofs.YtkhhdpndcidmgaaGreat.lay w L) cs l.length (Nat.le_refl _) (by unfold maxLen; omega) (by rw [← Array.length_toList, hc, flat_len hR])
  rw [hc] at this
  exact this
end Go.Proofs.YtkhhdpndcidmgaaGreat
