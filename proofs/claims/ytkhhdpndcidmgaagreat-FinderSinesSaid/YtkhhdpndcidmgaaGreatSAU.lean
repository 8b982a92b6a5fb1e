/- Contracts and plain laws, several texts in one: Row; Pg1; Angle; RtP; Mer1; Trk; Pg2; Pg3; Inc1; Pg4; Pg5; Rf1; Rf2; Rf3 -/
import Derived.Test.YtkhhdpndcidmgaaGreatProg
import Derived.WalkKit
import Derived.WalkSpells
import Derived.WalkLawsBesides
import Derived.Lib.Hide
import Derived.BigQuiet
import Derived.Deep.Slices
import Derived.Deep.AppendLies
import Derived.Maps.AppendAt
import Derived.Laws.AppendOwnNone
import Derived.Laws.OwnMore
import Derived.WideShapes
import Derived.Lib.SmallJoins
import Derived.Deep.Fields
import Derived.ChangeSame
import Derived.ChangeShapes
import Derived.Deep.RegionWith
import Derived.Maps.Own
import Derived.RangeFuncNested
import Derived.RangeFuncBound
import Derived.RangeFuncCalls
import Derived.RangeFuncLeaves
import Derived.Shelf.Abstract
import Derived.Shelf.RegionOpen
import Derived.OwnWalkIn
import Derived.TacticsInMore
import Derived.LoopNIn
import Derived.LoopIn
import Derived.Test.YtkhhdpndcidmgaaGreatSAC
import Derived.Test.YtkhhdpndcidmgaaGreatSAD
import Derived.Test.YtkhhdpndcidmgaaGreatSAE
/- Rows of records of k cells: slices that read as a list, rows of the call's own, an append of one record or of a whole slice, a store into a record. No function of the program. -/
namespace Go.Proofs.YtkhhdpndcidmgaaGreat
open Go.RowKit

structure RecT (α : Type) where
  E : TypeId
  S : TypeId
  k : Nat
  bytes : Nat
  enc : α → List Value
  wf : α → Prop
structure RecOk {α : Type} (R : RecT α) : Prop where
  len : ∀ x, (R.enc x).length = R.k
  one : ∀ x, ∀ u ∈ R.enc x, u.oneCell' = true
  pos : 0 < R.k
  und : Tryz.prog.underlying R.S = some (.slice R.E)
  info : ∃ i z, Tryz.prog.info? R.E = some i ∧ i.zero = some z ∧ i.size = R.k ∧ i.bytes = R.bytes ∧ z.cells.size = R.k
  small : R.bytes ≤ 1000
variable {α : Type} {R : RecT α}

theorem flat_len (hR : RecOk R) (l : List α) : (l.flatMap R.enc).length = l.length * R.k := by
  induction l with
  | nil => simp
  | cons x l ih => rw [List.flatMap_cons, List.length_append, hR.len, ih, List.length_cons, Nat.succ_mul, Nat.add_comm]
theorem flat_get (hR : RecOk R) : ∀ {l : List α} {i j : Nat} {x : α}, l[i]? = some x → j < R.k → (l.flatMap R.enc)[i * R.k + j]? = (R.enc x)[j]?
  | [], i, j, x, h, _ => by simp at h
  | y :: l, 0, j, x, h, hj => by
    simp only [List.getElem?_cons_zero, Option.some.injEq] at h
    subst h
    rw [List.flatMap_cons, List.getElem?_append_left (by rw [hR.len]; omega)]
    congr 1; omega
  | y :: l, i + 1, j, x, h, hj => by
    rw [List.getElem?_cons_succ] at h
    rw [List.flatMap_cons, List.getElem?_append_right (by rw [hR.len, Nat.succ_mul]; omega), hR.len]
    rw [show (i + 1) * R.k + j - R.k = i * R.k + j by rw [Nat.succ_mul]; omega]
    exact flat_get hR h hj
def SlG (R : RecT α) (w : World) (v : Value) (l : List α) : Prop :=
  ∃ a cap, v = .slice a l.length cap ∧ (l.length ≤ cap ∧ cap ≤ 9223372036854775807) ∧ (∀ x ∈ l, R.wf x) ∧
    (l ≠ [] → ∃ b o, a = some ⟨b, o, none⟩ ∧ b < w.heap.size ∧ ∀ (i : Nat) x, l[i]? = some x → ∀ (j : Nat) u, (R.enc x)[j]? = some u → w.cell? ⟨b, o + (i * R.k + j), none⟩ = some u)
theorem SlG.ext {w w' : World} {v : Value} {l : List α} (h : SlG R w v l) (hb : Below w.heap.size w w') : SlG R w' v l := by
  obtain ⟨a, cap, h1, h2, h0, h3⟩ := h
  refine ⟨a, cap, h1, h2, h0, fun hl => ?_⟩
  obtain ⟨b, o, h4, h5, h6⟩ := h3 hl
  exact ⟨b, o, h4, Nat.lt_of_lt_of_le h5 hb.size, fun i x hx j u hu => (hb.cell (p := ⟨b, o + (i * R.k + j), none⟩) h5).trans (h6 i x hx j u hu)⟩
theorem SlG.bw {w : World} {v : Value} {l : List α} (h : SlG R w v l) (d : Ext) : SlG R (bw w d) v l := h.ext (bw_below w d)
theorem SlG.lay {w : World} {v : Value} {l : List α} (h : SlG R w v l) (L : List (Obj ⊕ Ext)) : SlG R (lay w L) v l := h.ext (lay_extends w L)
theorem lay_appG (w : World) (A B : List (Obj ⊕ Ext)) : lay w (A ++ B) = lay (lay w B) A := by
  induction A with
  | nil => rfl
  | cons x A ih =>
    cases x with
    | inl o => exact congrArg (fun W => World.alloc W o) ih
    | inr d => exact congrArg (fun W => Go.Proofs.YtkhhdpndcidmgaaGreat.bw W d) ih
theorem lay_belowG {w : World} {A B : List (Obj ⊕ Ext)} : Below (lay w B).heap.size (lay w B) (lay w (A ++ B)) := by rw [lay_appG]; exact lay_extends _ _
theorem slG_on {w : World} {v : Value} {l : List α} {A B : List (Obj ⊕ Ext)} (h : SlG R (lay w B) v l) : SlG R (lay w (A ++ B)) v l := h.ext lay_belowG
theorem SlG.nil (R : RecT α) (w : World) : SlG R w (.slice none 0 0) [] := ⟨none, 0, rfl, by simp, fun _ h => absurd h (List.not_mem_nil), fun h => absurd rfl h⟩
theorem SlG.open {w : World} {v : Value} {l : List α} (h : SlG R w v l) (hl : 0 < l.length) :
    ∃ b o cap, v = .slice (some ⟨b, o, none⟩) l.length cap ∧ (l.length ≤ cap ∧ cap ≤ 9223372036854775807) ∧ b < w.heap.size ∧ ∀ (i : Nat) x, l[i]? = some x → ∀ (j : Nat) u, (R.enc x)[j]? = some u → w.cell? ⟨b, o + (i * R.k + j), none⟩ = some u := by
  obtain ⟨a, cap, rfl, h2, _, h3⟩ := h
  obtain ⟨b, o, rfl, h5, h6⟩ := h3 (by intro e; rw [e] at hl; exact Nat.lt_irrefl 0 hl)
  exact ⟨b, o, cap, rfl, h2, h5, h6⟩
theorem SlG.wf {w : World} {v : Value} {l : List α} (h : SlG R w v l) : ∀ x ∈ l, R.wf x := by
  obtain ⟨_, _, _, _, h, _⟩ := h; exact h
theorem SlG.form {w : World} {v : Value} {l : List α} (h : SlG R w v l) : ∃ a cap, v = .slice a l.length cap := by
  obtain ⟨a, c, e, _⟩ := h; exact ⟨a, c, e⟩
def OwG (R : RecT α) (w : World) (base : Nat) (v : Value) (l : List α) : Prop :=
  w.ownsRow base R.E R.k v l.length (l.flatMap R.enc) ∧ ∀ x ∈ l, R.wf x
theorem OwG.nil (R : RecT α) (w : World) (base : Nat) : OwG R w base (.slice none 0 0) [] := ⟨World.ownsRow_nil w base _ _, fun _ h => absurd h (List.not_mem_nil)⟩
theorem OwG.form {w : World} {base : Nat} {v : Value} {l : List α} (h : OwG R w base v l) : ∃ a cap, v = .slice a l.length cap := by
  rcases h.1.2 with ⟨rfl, hz⟩ | ⟨g, cap, cur, rfl, _⟩
  · exact ⟨none, 0, by rw [hz]⟩
  · exact ⟨_, cap, rfl⟩
theorem OwG.form1 {w : World} {base : Nat} {v : Value} {l : List α} (h : OwG R w base v l) (hl : 0 < l.length) : ∃ g cap, v = .slice (some ⟨g, 0, none⟩) l.length cap ∧ base ≤ g ∧ g < w.heap.size ∧ l.length ≤ cap ∧ cap ≤ 9223372036854775807 := by
  rcases h.1.2 with ⟨rfl, hz⟩ | ⟨g, cap, cur, rfl, h1, h2, h3, h4, _⟩
  · omega
  · have hM : maxLen = 9223372036854775807 := by decide
    exact ⟨g, cap, rfl, h1, (Array.getElem?_eq_some_iff.1 h2).1, h3, by omega⟩
theorem OwG.cell (hR : RecOk R) {w : World} {base g cap n : Nat} {l : List α} (h : OwG R w base (.slice (some ⟨g, 0, none⟩) n cap) l) {i j : Nat} {x : α} {u : Value} (hx : l[i]? = some x) (hu : (R.enc x)[j]? = some u) : w.cell? ⟨g, i * R.k + j, none⟩ = some u := by
  have hn : n = l.length := by
    obtain ⟨a, c, e⟩ := h.form
    cases e; rfl
  subst hn
  have hi := (List.getElem?_eq_some_iff.1 hx).1
  have hj : j < R.k := by have := (List.getElem?_eq_some_iff.1 hu).1; rw [hR.len] at this; exact this
  rw [h.1.cellAt _ (by have : (i + 1) * R.k ≤ l.length * R.k := Nat.mul_le_mul_right _ hi
                       rw [Nat.succ_mul] at this; omega), flat_get hR hx hj, hu]
theorem OwG.froz {w : World} {base g cap n : Nat} {l : List α} (h : OwG R w base (.slice (some ⟨g, 0, none⟩) n cap) l) (j : Nat) : w.frozen? ⟨g, j, none⟩ = false := by
  have hn : n = l.length := by
    obtain ⟨a, c, e⟩ := h.form
    cases e; rfl
  subst hn
  exact h.1.frozenAt j
theorem OwG.sl (hR : RecOk R) {w : World} {base : Nat} {v : Value} {l : List α} (h : OwG R w base v l) : SlG R w v l := by
  by_cases hl : l = []
  · subst hl
    rcases h.1.2 with ⟨rfl, hz⟩ | ⟨g, cap, cur, rfl, _, _, h3, h4, _⟩
    · exact SlG.nil R w
    · have hM : maxLen = 9223372036854775807 := by decide
      exact ⟨_, cap, rfl, ⟨h3, by omega⟩, h.2, fun hne => absurd rfl hne⟩
  · have hl' : 0 < l.length := List.length_pos_iff.2 hl
    obtain ⟨g, cap, rfl, h1, h2, h3⟩ := h.form1 hl'
    exact ⟨_, cap, rfl, h3, h.2, fun _ => ⟨g, 0, rfl, h2, fun i x hx j u hu => by rw [Nat.zero_add]; exact h.cell hR hx hu⟩⟩
theorem OwG.ext {w w' : World} {base : Nat} {v : Value} {l : List α} (h : OwG R w base v l) (hb : Below w.heap.size w w') : OwG R w' base v l := by
  refine ⟨⟨h.1.1, h.1.2.imp id ?_⟩, h.2⟩
  rintro ⟨g, cap, cur, e, h1, h2, h3⟩
  exact ⟨g, cap, cur, e, h1, (hb.block g (Array.getElem?_eq_some_iff.1 h2).1).trans h2, h3⟩
theorem OwG.lay {w : World} {base : Nat} {v : Value} {l : List α} (h : OwG R w base v l) (L : List (Obj ⊕ Ext)) : OwG R (lay w L) base v l := h.ext (lay_extends w L)
theorem OwG.bw {w : World} {base : Nat} {v : Value} {l : List α} (h : OwG R w base v l) (d : Ext) : OwG R (bw w d) base v l := h.ext (bw_below w d)
theorem OwG.le {w : World} {base base' : Nat} {v : Value} {l : List α} (h : OwG R w base v l) (hb : base' ≤ base) : OwG R w base' v l := ⟨⟨h.1.1, h.1.2.imp id fun ⟨g, cap, cur, e, h1, h2⟩ => ⟨g, cap, cur, e, Nat.le_trans hb h1, h2⟩⟩, h.2⟩
theorem owG_on {w : World} {base : Nat} {v : Value} {l : List α} {A B : List (Obj ⊕ Ext)} (h : OwG R (lay w B) base v l) : OwG R (lay w (A ++ B)) base v l := h.ext lay_belowG

theorem push_rec (hR : RecOk R) {ops : Array Oper} {rest : List Oper} {o : Oper} {a : Act} {Q : Exit → Act → World → Prop} (hgd : o.guard = none) (s x : Operand)
    (ho : o.op = .call { callee := .builtin .append, args := #[s, x], argTypes := #[R.S, R.S] })
    (W0 : World) (wb : World) (c : α) (cs : Array Value) (te : TypeId) (xb : Nat) (v : Value) (l : List α) (hw : Below W0.heap.size W0 wb) (hown : OwG R wb W0.heap.size v l)
    (hcell : wb.heap[xb]? = some (.cells cs te (0, 0))) (hcs : cs.toList = R.enc c) (hs : a.eval s = v) (hx : a.eval x = .slice (some ⟨xb, 0, none⟩) 1 1)
    (hn : l.length ≤ 1000000000) (hc : R.wf c)
    (h : ∀ v' d, OwG R (Go.Proofs.YtkhhdpndcidmgaaGreat.bw W0 d) W0.heap.size v' (l ++ [c]) → wpList Tryz.prog ops Q rest (a.put o.dst v') (Go.Proofs.YtkhhdpndcidmgaaGreat.bw W0 d)) :
    wpList Tryz.prog ops Q (o :: rest) a wb := by
  obtain ⟨i, z, hi, hz0, hz1, hz2, hz3⟩ := hR.info
  have hM : maxLen = 9223372036854775807 := by decide
  have hb := hR.small
  have hb2 : (l.length + 1) * R.bytes ≤ 1000000001 * 1000 := Nat.mul_le_mul (by omega) hb
  refine wpList_append_lies wb hgd s x R.S ho W0.heap.size R.E i z R.k R.bytes hR.und hi hz0 hz1 hz2 hz3 hR.pos v l.length (l.flatMap R.enc) hs hown.1 ⟨xb, 0, none⟩ 1 1 (R.enc c) hx (by rw [hR.len, Nat.one_mul]) (by rw [← hcs]; exact World.news_of_block hcell) (hR.one c) (by decide) (by omega) (by omega) hw.size wb.heap.size rfl ?_
  intro g cap w' hown' hg hat _
  obtain ⟨d, hd⟩ := bw_of (w := W0) (w' := w') (hw.grown hg hw.size (fun k hk => (hown.1.lt k hk).1))
  subst hd
  refine h _ d ⟨?_, fun y hy => ?_⟩
  · rw [List.flatMap_append, List.length_append]
    simpa using hown'
  · rcases List.mem_append.1 hy with hy | hy
    · exact hown.2 y hy
    · rw [List.mem_singleton.1 hy]; exact hc
theorem push_slG (hR : RecOk R) {ops : Array Oper} {rest : List Oper} {o : Oper} {a : Act} {Q : Exit → Act → World → Prop} (hgd : o.guard = none) (s x : Operand)
    (ho : o.op = .call { callee := .builtin .append, args := #[s, x], argTypes := #[R.S, R.S] })
    (W0 : World) (wb : World) (v1 : Value) (l1 : List α) (A : Option Addr) (n c : Nat) (l2 : List α) (hw : Below W0.heap.size W0 wb) (hown : OwG R wb W0.heap.size v1 l1)
    (hsrc : SlG R wb (.slice A n c) l2) (hA : A = none → c = 0) (hs : a.eval s = v1) (hx : a.eval x = .slice A n c) (hn : l1.length + l2.length ≤ 1000000000)
    (h : ∀ v' d, OwG R (Go.Proofs.YtkhhdpndcidmgaaGreat.bw W0 d) W0.heap.size v' (l1 ++ l2) → wpList Tryz.prog ops Q rest (a.put o.dst v') (Go.Proofs.YtkhhdpndcidmgaaGreat.bw W0 d)) :
    wpList Tryz.prog ops Q (o :: rest) a wb := by
  obtain ⟨i, z, hi, hz0, hz1, hz2, hz3⟩ := hR.info
  have hM : maxLen = 9223372036854775807 := by decide
  obtain ⟨a', cap', he, hcc, hwf, hcell⟩ := hsrc
  simp only [Value.slice.injEq] at he
  obtain ⟨rfl, rfl, rfl⟩ := he
  cases A with
  | none =>
    obtain rfl := hA rfl
    have hl2 : l2 = [] := by
      rcases List.eq_nil_or_concat l2 with h | ⟨_, _, h⟩
      · exact h
      · have : l2 ≠ [] := by rw [h]; simp
        obtain ⟨_, _, h, _⟩ := hcell this
        cases h
    subst hl2
    obtain ⟨d, rfl⟩ := bw_of hw
    refine wpList_append_own_none hgd s x R.S ho W0.heap.size R.E i R.k hR.und hi v1 l1.length (l1.flatMap R.enc) hs hown.1 hx ?_
    exact h v1 d (by rw [List.append_nil]; exact hown)
  | some ad =>
    have hb2 : (l1.length + l2.length) * R.bytes ≤ 1000000000 * 1000 := Nat.mul_le_mul hn hR.small
    refine wpList_append_own wb hgd s x R.S ho W0.heap.size R.E i z R.k R.bytes hR.und hi hz0 hz1 hz2 hz3 hR.pos v1 l1.length (l1.flatMap R.enc) hs hown.1 ad l2.length c (l2.flatMap R.enc) hx (flat_len hR l2) ?_ ?_ (by omega) (by omega) hw.size ?_
    · intro j u hu
      have hj : j < l2.length * R.k := by have := (List.getElem?_eq_some_iff.1 hu).1; rw [flat_len hR] at this; exact this
      have hne : l2 ≠ [] := by intro e; rw [e] at hj; simp at hj
      obtain ⟨b, o', e, _, hr⟩ := hcell hne
      cases e
      have hq : j / R.k < l2.length := Nat.div_lt_of_lt_mul (by rw [Nat.mul_comm]; exact hj)
      have hm : j % R.k < R.k := Nat.mod_lt _ hR.pos
      have e1 : j = j / R.k * R.k + j % R.k := by rw [Nat.mul_comm]; exact (Nat.div_add_mod j R.k).symm
      have hx' : l2[j / R.k]? = some l2[j / R.k] := List.getElem?_eq_getElem hq
      rw [e1, flat_get hR hx' hm] at hu
      have h3 := hr _ _ hx' _ _ hu
      rw [← e1] at h3
      have hadd : (⟨b, o', none⟩ : Addr).add j = ⟨b, o' + j, none⟩ := by
        unfold Addr.add
        split
        · rename_i h0
          have : j = 0 := by simpa using h0
          subst this; rfl
        · rfl
      rw [hadd]
      exact h3
    · intro u hu
      obtain ⟨y, _, hy⟩ := List.mem_flatMap.1 hu
      exact hR.one y u hy
    · intro v' w' hown' hg _
      obtain ⟨d, hd⟩ := bw_of (w := W0) (w' := w') (hw.grown hg hw.size (fun k hk => (hown.1.lt k hk).1))
      subst hd
      refine h v' d ⟨by rw [List.length_append, List.flatMap_append]; exact hown', fun y hy => ?_⟩
      rcases List.mem_append.1 hy with hy | hy
      · exact hown.2 y hy
      · exact hwf y hy
theorem owG_empty (R : RecT α) {w : World} {L : List (Obj ⊕ Ext)} : OwG R (Go.Proofs.YtkhhdpndcidmgaaGreat.lay w (.inl (.cells #[] R.E (0, 0)) :: L)) (Go.Proofs.YtkhhdpndcidmgaaGreat.lay w L).heap.size (.slice (some ⟨posn w (shp L), 0, none⟩) 0 0) [] := by
  rw [← lay_size w L]
  exact ⟨World.ownsRow_lit (Go.Proofs.YtkhhdpndcidmgaaGreat.lay w L) #[] 0 (Nat.le_refl _) (by decide) (by simp), fun _ h => absurd h (List.not_mem_nil)⟩
theorem owG_lit (hR : RecOk R) {w : World} {L : List (Obj ⊕ Ext)} {cs : Array Value} (l : List α) (hc : cs.toList = l.flatMap R.enc) (hl : l.length ≤ 1000) (hw : ∀ x ∈ l, R.wf x) :
    OwG R (Go.Proofs.YtkhhdpndcidmgaaGreat.lay w (.inl (.cells cs R.E (0, 0)) :: L)) (Go.Proofs.YtkhhdpndcidmgaaGreat.lay w L).heap.size (.slice (some ⟨posn w (shp L), 0, none⟩) l.length l.length) l := by
  rw [← lay_size w L]
  refine ⟨?_, hw⟩
  have := World.ownsRow_lit (base := (Go.Proofs.YtkhhdpndcidmgaaGreat.lay w L).heap.size) (e := R.E) (size := R.k) (Go.Proofs.YtkhhdpndcidmgaaGreat.lay w L) cs l.length (Nat.le_refl _) (by unfold maxLen; omega) (by rw [← Array.length_toList, hc, flat_len hR])
  rw [hc] at this
  exact this
end Go.Proofs.YtkhhdpndcidmgaaGreat
/- Names: package decimal's and the reference's. -/
namespace Go.Proofs.YtkhhdpndcidmgaaGreat
set_option maxHeartbeats 1000000
open Go.RowKit

def letB (c : Int) : Bool := decide ((97 ≤ c ∧ c ≤ 122) ∨ (65 ≤ c ∧ c ≤ 90))
def digB (c : Int) : Bool := decide (48 ≤ c ∧ c ≤ 57)
def wrdB (c : Int) : Bool := letB c || digB c || c == 95
theorem letB_iff {c : Int} : letB c = true ↔ (97 ≤ c ∧ c ≤ 122) ∨ (65 ≤ c ∧ c ≤ 90) := by simp [letB]
theorem digB_iff {c : Int} : digB c = true ↔ 48 ≤ c ∧ c ≤ 57 := by simp [digB]
theorem dec_letter (c : Int) (w : World) (h0 : 0 ≤ c) (h1 : c ≤ 255) :
    Calls Tryz.prog 121 #[.int .u8 c] w fun e w' => e = .returned (.bool (letB c)) ∧ w' = w := by
  go_enter Tryz.func121, Tryz.ntmps121
  go_wp2
  all_goals go_ret
  all_goals exact ⟨ret_bool (by rw [Bool.eq_iff_iff, letB_iff]; simp; omega), rfl⟩
theorem dec_digit (c : Int) (w : World) (h0 : 0 ≤ c) (h1 : c ≤ 255) :
    Calls Tryz.prog 155 #[.int .u8 c] w fun e w' => e = .returned (.bool (digB c)) ∧ w' = w := by
  go_enter Tryz.func155, Tryz.ntmps155
  go_wp2
  all_goals go_ret
  all_goals exact ⟨ret_bool (by rw [Bool.eq_iff_iff, digB_iff]; simp; omega), rfl⟩
theorem dec_word (c : Int) (w : World) (h0 : 0 ≤ c) (h1 : c ≤ 255) :
    Calls Tryz.prog 120 #[.int .u8 c] w fun e w' => e = .returned (.bool (wrdB c)) ∧ w' = w := by
  go_enter Tryz.func120, Tryz.ntmps120
  go_wp2_with (first | (go_at_call 121; refine (dec_letter _ _ h0 h1).mono ?_; rintro e w' ⟨rfl, rfl⟩) | (go_at_call 155; refine (dec_digit _ _ h0 h1).mono ?_; rintro e w' ⟨rfl, rfl⟩))
  all_goals go_ret
  all_goals exact ⟨ret_bool (by simp [wrdB, *]), rfl⟩
def bt (s : ByteArray) (i : Nat) : Int := ((s.data.toList.getD i 0).toNat : Int)
theorem bt_get {s : ByteArray} {i : Nat} (h : i < s.size) : ((s[i]'h).toNat : Int) = bt s i := by
  unfold bt
  rw [List.getD_eq_getElem?_getD, List.getElem?_eq_getElem (by simpa using h)]
  rfl
theorem bt_bd (s : ByteArray) (i : Nat) : 0 ≤ bt s i ∧ bt s i ≤ 255 := by
  unfold bt
  have := (s.data.toList.getD i 0).toNat_lt
  omega
def AllW (s : ByteArray) (k : Nat) : Prop := ∀ i, i < k → wrdB (bt s i) = true
structure Name (s : ByteArray) : Prop where
  len : s.size ≤ 20
  pos : 0 < s.size
  all : AllW s s.size
  hd : letB (bt s 0) = true
noncomputable def nameB (s : ByteArray) : Bool := @decide (Name s) (Classical.propDecidable _)
theorem nameB_iff {s : ByteArray} : nameB s = true ↔ Name s := by unfold nameB; simp
theorem nameB_no {s : ByteArray} (h : ¬ Name s) : false = nameB s := by cases e : nameB s; rfl; exact absurd (nameB_iff.1 e) h
theorem nameB_yes {s : ByteArray} (h : Name s) : true = nameB s := (nameB_iff.2 h).symm
noncomputable def allwB (s : ByteArray) : Bool := @decide (0 < s.size ∧ AllW s s.size) (Classical.propDecidable _)
theorem allwB_iff {s : ByteArray} : allwB s = true ↔ 0 < s.size ∧ AllW s s.size := by unfold allwB; simp
theorem allwB_no {s : ByteArray} (h : ¬ (0 < s.size ∧ AllW s s.size)) : false = allwB s := by cases e : allwB s; rfl; exact absurd (allwB_iff.1 e) h
theorem str_all {s : ByteArray} (h : AllW s s.size) : (!s.toList.isEmpty) = allwB s := by
  rw [Bool.eq_iff_iff, allwB_iff, ByteArray.toList_eq]
  have e : s.size = s.data.toList.length := by simp
  rw [Bool.not_eq_true', List.isEmpty_eq_false_iff]
  constructor
  · intro h1; exact ⟨by rw [e]; exact List.length_pos_iff.2 h1, h⟩
  · intro h1 h2; rw [h2, List.length_nil] at e; have := h1.1; omega
theorem dec_all (s : ByteArray) (w : World) (hs : s.size ≤ 9223372036854775807) :
    Calls Tryz.prog 119 #[.string s, .func (.func 120) #[] #[]] w fun e w' => e = .returned (.bool (allwB s)) ∧ w' = w := by
  go_enter Tryz.func119, Tryz.ntmps119
  go_wp2_with fail
  go_loop [8] (fun i => ∃ k : Nat, k ≤ s.size ∧ i = .int .i64 k ∧ AllW s k) (fun i => s.size - (intOf i).toNat)
  case atStart => exact ⟨0, Nat.zero_le _, rfl, fun i hi => absurd hi (Nat.not_lt_zero i)⟩
  case round =>
    obtain ⟨k, hk, rfl, hA⟩ := hrel
    have HA := Lib.hid hA
    clear hA
    by_cases hlt : k < s.size
    · have e := bt_get hlt
      have b := bt_bd s k
      cases hw : wrdB (bt s k)
      · have HN : Hid (false = allwB s) := Lib.hid (allwB_no fun h => by have := h.2 k hlt; rw [hw] at this; cases this)
        go_wp2_with (go_at_call 120; refine (dec_word _ _ (by omega) (by omega)).mono ?_; rintro e w' ⟨rfl, rfl⟩)
        go_ret
        exact ⟨ret_bool HN.out, rfl⟩
      · have HN := Lib.hid hw
        go_wp2_with (go_at_call 120; refine (dec_word _ _ (by omega) (by omega)).mono ?_; rintro e w' ⟨rfl, rfl⟩)
        go_round
        case rel => exact ⟨k + 1, by omega, by go_num, fun i hi => by
          by_cases e : i = k
          · subst e; exact HN.out
          · exact HA.out i (by omega)⟩
        case measure => simp [intOf]; omega
    · obtain rfl : k = s.size := by omega
      have HN : Hid ((!s.toList.isEmpty) = allwB s) := Lib.hid (str_all HA.out)
      go_wp2
      go_ret
      exact ⟨ret_bool HN.out, rfl⟩
theorem dec_IsName (s : ByteArray) (w : World) (hs : s.size ≤ 9223372036854775807) :
    Calls Tryz.prog 86 #[.string s] w fun e w' => e = .returned (.bool (nameB s)) ∧ w' = w := by
  by_cases h20 : s.size ≤ 20
  · cases ha : allwB s
    · have HN : Hid (false = nameB s) := Lib.hid (nameB_no fun h => by have := allwB_iff.2 ⟨h.pos, h.all⟩; rw [ha] at this; cases this)
      go_enter Tryz.func86, Tryz.ntmps86
      go_wp2_with (go_at_call 119; refine (dec_all s _ hs).mono ?_; rintro e w' ⟨rfl, rfl⟩)
      go_ret
      exact ⟨ret_bool HN.out, rfl⟩
    · obtain ⟨p, q⟩ := allwB_iff.1 ha
      have e := bt_get p
      have b := bt_bd s 0
      obtain ⟨b0, b1⟩ := b
      cases hl : letB (bt s 0)
      · have HN : Hid (false = nameB s) := Lib.hid (nameB_no fun h => by have := h.hd; rw [hl] at this; cases this)
        clear q
        go_enter Tryz.func86, Tryz.ntmps86
        go_wp2_with (first | (go_at_call 119; refine (dec_all s _ hs).mono ?_; rintro e w' ⟨rfl, rfl⟩) | (go_at_call 121; refine (dec_letter _ _ (by omega) (by omega)).mono ?_; rintro e w' ⟨rfl, rfl⟩))
        go_ret
        exact ⟨ret_bool HN.out, rfl⟩
      · have HN : Hid (true = nameB s) := Lib.hid (nameB_yes ⟨h20, p, q, hl⟩)
        clear q
        go_enter Tryz.func86, Tryz.ntmps86
        go_wp2_with (first | (go_at_call 119; refine (dec_all s _ hs).mono ?_; rintro e w' ⟨rfl, rfl⟩) | (go_at_call 121; refine (dec_letter _ _ (by omega) (by omega)).mono ?_; rintro e w' ⟨rfl, rfl⟩))
        go_ret
        exact ⟨ret_bool HN.out, rfl⟩
  · have HN : Hid (false = nameB s) := Lib.hid (nameB_no fun h => h20 h.len)
    go_enter Tryz.func86, Tryz.ntmps86
    go_wp2
    go_ret
    exact ⟨ret_bool HN.out, rfl⟩
end Go.Proofs.YtkhhdpndcidmgaaGreat
/- Contracts of package angle and of its reference, as far as the translation has them. -/
namespace Go.Proofs.YtkhhdpndcidmgaaGreat
set_option maxHeartbeats 400000
open Go.RowKit

def fitsB (n : Int) : Bool := decide (-1099511627776 ≤ n ∧ n ≤ 1099511627776)
theorem fits_yes {n : Int} (h1 : -1099511627776 ≤ n) : decide (n ≤ 1099511627776) = fitsB n := by
  unfold fitsB; simp [h1]
theorem fits_no {n : Int} (h1 : n < -1099511627776) : false = fitsB n := by
  unfold fitsB; simp; omega
def validB (lo hi : Int) : Bool := decide (lo ≤ hi ∧ -1099511627776 ≤ lo ∧ hi ≤ 1099511627776)
theorem validB_iff {lo hi : Int} : validB lo hi = true ↔ lo ≤ hi ∧ -1099511627776 ≤ lo ∧ hi ≤ 1099511627776 := by simp [validB]
theorem validB_eq {lo hi : Int} : validB lo hi = (decide (lo ≤ hi) && fitsB lo && fitsB hi) := by
  rw [Bool.eq_iff_iff]; simp [validB, fitsB]; omega
theorem angle_fits (n : Int) (w : World) :
    Calls Tryz.prog 74 #[.int .i64 n] w fun e w' => e = .returned (.bool (fitsB n)) ∧ w' = w := by
  go_enter Tryz.func74, Tryz.ntmps74
  go_wp2
  · go_ret
    exact ⟨ret_bool (fits_yes ‹_›), rfl⟩
  · go_ret
    exact ⟨ret_bool (fits_no ‹_›), rfl⟩
theorem valid_ways1 {lo hi : Int} (h : lo ≤ hi) (h2 : fitsB lo = true) : fitsB hi = validB lo hi := by simp [validB_eq, *]
theorem valid_ways2 {lo hi : Int} (h2 : ¬ fitsB lo = true) : false = validB lo hi := by simp [validB_eq, *]
theorem valid_ways3 {lo hi : Int} (h2 : hi < lo) : false = validB lo hi := by
  have : ¬ lo ≤ hi := by omega
  simp [validB_eq, *]
theorem angle_Valid (lo hi : Int) (w : World) :
    Calls Tryz.prog 32 #[(.agg #[.int .i64 (lo), .int .i64 (hi)])] w fun e w' => e = .returned (.bool (validB lo hi)) ∧ ∃ d, w' = bw w d := by
  refine lay_start ?_
  go_enter Tryz.func32, Tryz.ntmps32
  go_wp2_with (go_at_call 74; refine (angle_fits _ _).mono ?_; rintro e w' ⟨rfl, rfl⟩)
  all_goals go_ret
  all_goals exact ⟨ret_bool (by first | exact valid_ways1 ‹_› ‹_› | exact valid_ways2 ‹_› | exact valid_ways3 ‹_›), lay_ex _ _⟩
theorem ref05_Valid (lo hi : Int) (w : World) :
    Calls Tryz.prog 26 #[(.agg #[.int .i64 (lo), .int .i64 (hi)])] w fun e w' => e = .returned (.bool (validB lo hi)) ∧ ∃ d, w' = bw w d := by
  refine lay_start ?_
  go_enter Tryz.func26, Tryz.ntmps26
  go_wp2
  all_goals go_ret
  all_goals exact ⟨ret_bool (by rw [Bool.eq_iff_iff]; simp [validB]; omega), lay_ex _ _⟩
theorem angle_Wrap (n : Int) (w : World) :
    Calls Tryz.prog 33 #[.int .i64 n] w fun e w' => e = .returned (.int .i64 (n % 21600000)) ∧ w' = w := by
  have hb := tmod_bd n 21600000 (by decide)
  go_enter Tryz.func33, Tryz.ntmps33
  go_wp2
  · go_ret
    exact ⟨ret_int ((tmod_wrap n 21600000 (by decide)).1 ‹_›), rfl⟩
  · go_ret
    exact ⟨ret_int ((tmod_wrap n 21600000 (by decide)).2 ‹_›), rfl⟩

def mn (x y : Int) : Int := if y < x then y else x
def mx (x y : Int) : Int := if x < y then y else x
theorem mn_eq (x y : Int) : mn x y = min x y := by unfold mn; split <;> omega
theorem mx_eq (x y : Int) : mx x y = max x y := by unfold mx; split <;> omega
section
variable {P : Program} {w : World}
theorem run_mn (ts : Array TypeId) (t : TypeId) (k k' : IntKind) (x y : Int) : (Builtin.min_ ts t #[.int k x, .int k' y]).run P w = .ok (.int k (mn x y)) w := run_min_int2 w ts t k k' x y
theorem run_mx (ts : Array TypeId) (t : TypeId) (k k' : IntKind) (x y : Int) : (Builtin.max_ ts t #[.int k x, .int k' y]).run P w = .ok (.int k (mx x y)) w := run_max_int2 w ts t k k' x y
end
attribute [go_sem ↓] run_mn run_mx

def turnLo (x0 y0 : Int) : Int := if 21600000 ≤ y0 - x0 then 0 else x0 % 21600000
def turnHi (x0 y0 : Int) : Int := if 21600000 ≤ y0 - x0 then 21600000 else x0 % 21600000 + (y0 - x0)
theorem angle_Turn (x0 y0 : Int) (w : World) (h1 : validB x0 y0 = true) :
    Calls Tryz.prog 8 #[(.agg #[.int .i64 (x0), .int .i64 (y0)])] w fun e w' => e = .returned (.tuple #[(.agg #[.int .i64 (turnLo x0 y0), .int .i64 (turnHi x0 y0)]), .int .i64 0]) ∧ ∃ d, w' = bw w d := by
  obtain ⟨g1, g2, g3⟩ := validB_iff.1 h1
  refine lay_start ?_
  go_enter Tryz.func8, Tryz.ntmps8
  go_wp2_with (first | (go_at_call 32; refine (angle_Valid _ _ _).mono ?_; rintro e w' ⟨rfl, d, rfl⟩) | (go_at_call 33; refine (angle_Wrap _ _).mono ?_; rintro e w' ⟨rfl, rfl⟩))
  all_goals exact bodyPost_ret (v := .tuple #[(.agg #[.int .i64 (turnLo x0 y0), .int .i64 (turnHi x0 y0)]), .int .i64 0]) (by simp [results, Tryz.results8, go_sem, turnLo, turnHi]; omega) rfl ⟨rfl, lay_ex _ _⟩

end Go.Proofs.YtkhhdpndcidmgaaGreat
/- Products of intervals, scaled by a rate: plain laws, no walk. -/
namespace Go.Proofs.YtkhhdpndcidmgaaGreat
open Go.RowKit

def m4 (a0 a1 b0 b1 : Int) : Int := mn (mn (mn (a0 * b0) (a0 * b1)) (a1 * b0)) (a1 * b1)
def x4 (a0 a1 b0 b1 : Int) : Int := mx (mx (mx (a0 * b0) (a0 * b1)) (a1 * b0)) (a1 * b1)
theorem mn4_is (x y z u : Int) : (mn (mn (mn x y) z) u ≤ x ∧ mn (mn (mn x y) z) u ≤ y ∧ mn (mn (mn x y) z) u ≤ z ∧ mn (mn (mn x y) z) u ≤ u) ∧ (mn (mn (mn x y) z) u = x ∨ mn (mn (mn x y) z) u = y ∨ mn (mn (mn x y) z) u = z ∨ mn (mn (mn x y) z) u = u) := by
  simp only [mn_eq]; omega
theorem mx4_is (x y z u : Int) : (x ≤ mx (mx (mx x y) z) u ∧ y ≤ mx (mx (mx x y) z) u ∧ z ≤ mx (mx (mx x y) z) u ∧ u ≤ mx (mx (mx x y) z) u) ∧ (mx (mx (mx x y) z) u = x ∨ mx (mx (mx x y) z) u = y ∨ mx (mx (mx x y) z) u = z ∨ mx (mx (mx x y) z) u = u) := by
  simp only [mx_eq]; omega
theorem lin1 {a0 a1 x k : Int} (h0 : a0 ≤ x) (h1 : x ≤ a1) : (a0 * k ≤ x * k ∨ a1 * k ≤ x * k) ∧ (x * k ≤ a0 * k ∨ x * k ≤ a1 * k) := by
  rcases Int.le_total 0 k with h | h
  · exact ⟨.inl (Int.mul_le_mul_of_nonneg_right h0 h), .inr (Int.mul_le_mul_of_nonneg_right h1 h)⟩
  · exact ⟨.inr (Int.mul_le_mul_of_nonpos_right h1 h), .inl (Int.mul_le_mul_of_nonpos_right h0 h)⟩
theorem box_mul {a0 a1 b0 b1 x y : Int} (h0 : a0 ≤ x) (h1 : x ≤ a1) (g0 : b0 ≤ y) (g1 : y ≤ b1) : m4 a0 a1 b0 b1 ≤ x * y ∧ x * y ≤ x4 a0 a1 b0 b1 := by
  obtain ⟨e1, e2⟩ := lin1 (k := y) h0 h1
  obtain ⟨f1, f2⟩ := lin1 (k := a0) g0 g1
  obtain ⟨i1, i2⟩ := lin1 (k := a1) g0 g1
  rw [Int.mul_comm b0 a0, Int.mul_comm b1 a0, Int.mul_comm y a0] at f1 f2
  rw [Int.mul_comm b0 a1, Int.mul_comm b1 a1, Int.mul_comm y a1] at i1 i2
  have hm := (mn4_is (a0 * b0) (a0 * b1) (a1 * b0) (a1 * b1)).1
  have hx := (mx4_is (a0 * b0) (a0 * b1) (a1 * b0) (a1 * b1)).1
  unfold m4 x4
  omega
theorem box_part {a0 a1 b0 b1 c0 c1 d0 d1 : Int} (h0 : a0 ≤ c0) (h : c0 ≤ c1) (h1 : c1 ≤ a1) (g0 : b0 ≤ d0) (g : d0 ≤ d1) (g1 : d1 ≤ b1) : m4 a0 a1 b0 b1 ≤ m4 c0 c1 d0 d1 ∧ x4 c0 c1 d0 d1 ≤ x4 a0 a1 b0 b1 := by
  have p1 := box_mul (a0 := a0) (a1 := a1) (b0 := b0) (b1 := b1) (x := c0) (y := d0) h0 (by omega) g0 (by omega)
  have p2 := box_mul (a0 := a0) (a1 := a1) (b0 := b0) (b1 := b1) (x := c0) (y := d1) h0 (by omega) (show b0 ≤ d1 by omega) g1
  have p3 := box_mul (a0 := a0) (a1 := a1) (b0 := b0) (b1 := b1) (x := c1) (y := d0) (show a0 ≤ c1 by omega) h1 g0 (by omega)
  have p4 := box_mul (a0 := a0) (a1 := a1) (b0 := b0) (b1 := b1) (x := c1) (y := d1) (show a0 ≤ c1 by omega) h1 (show b0 ≤ d1 by omega) g1
  have hm := (mn4_is (c0 * d0) (c0 * d1) (c1 * d0) (c1 * d1)).2
  have hx := (mx4_is (c0 * d0) (c0 * d1) (c1 * d0) (c1 * d1)).2
  constructor
  · show m4 a0 a1 b0 b1 ≤ mn (mn (mn (c0 * d0) (c0 * d1)) (c1 * d0)) (c1 * d1); omega
  · show mx (mx (mx (c0 * d0) (c0 * d1)) (c1 * d0)) (c1 * d1) ≤ x4 a0 a1 b0 b1; omega
theorem prod_in {X x k : Int} (h0 : 0 ≤ X) (hX : -X ≤ x ∧ x ≤ X) (hK : -X ≤ k ∧ k ≤ X) : -(X * X) ≤ x * k ∧ x * k ≤ X * X := by
  have h1 : (x * k).natAbs ≤ X.natAbs * X.natAbs := by rw [Int.natAbs_mul]; exact Nat.mul_le_mul (by omega) (by omega)
  have h2 : ((X.natAbs * X.natAbs : Nat) : Int) = X * X := by rw [Int.natCast_mul, Int.natAbs_of_nonneg h0]
  rw [← h2]
  omega
theorem box_in {X a0 a1 b0 b1 : Int} (h0 : 0 ≤ X) (ha : -X ≤ a0 ∧ a0 ≤ X) (ha1 : -X ≤ a1 ∧ a1 ≤ X) (hb : -X ≤ b0 ∧ b0 ≤ X) (hb1 : -X ≤ b1 ∧ b1 ≤ X) : -(X * X) ≤ m4 a0 a1 b0 b1 ∧ m4 a0 a1 b0 b1 ≤ x4 a0 a1 b0 b1 ∧ x4 a0 a1 b0 b1 ≤ X * X := by
  have p1 := prod_in h0 ha hb
  have p2 := prod_in h0 ha hb1
  have p3 := prod_in h0 ha1 hb
  have p4 := prod_in h0 ha1 hb1
  have hm := mn4_is (a0 * b0) (a0 * b1) (a1 * b0) (a1 * b1)
  have hx := mx4_is (a0 * b0) (a0 * b1) (a1 * b0) (a1 * b1)
  unfold m4 x4
  omega
def mulL (a0 a1 b0 b1 : Int) : Int := m4 a0 a1 b0 b1 / 1073741824
def mulH (a0 a1 b0 b1 : Int) : Int := -((-(x4 a0 a1 b0 b1)) / 1073741824)
theorem mul_unit {a0 a1 b0 b1 : Int} (ha : -1073741824 ≤ a0) (ha1 : a0 ≤ a1) (ha2 : a1 ≤ 1073741824) (hb : -1073741824 ≤ b0) (hb1 : b0 ≤ b1) (hb2 : b1 ≤ 1073741824) :
    -1073741824 ≤ mulL a0 a1 b0 b1 ∧ mulL a0 a1 b0 b1 ≤ mulH a0 a1 b0 b1 ∧ mulH a0 a1 b0 b1 ≤ 1073741824 := by
  have h := box_in (X := 1073741824) (by decide) (a0 := a0) (a1 := a1) (b0 := b0) (b1 := b1) ⟨ha, by omega⟩ ⟨by omega, ha2⟩ ⟨hb, by omega⟩ ⟨by omega, hb2⟩
  unfold mulL mulH
  omega
theorem mul_part {a0 a1 b0 b1 c0 c1 d0 d1 : Int} (h0 : a0 ≤ c0) (h : c0 ≤ c1) (h1 : c1 ≤ a1) (g0 : b0 ≤ d0) (g : d0 ≤ d1) (g1 : d1 ≤ b1) : mulL a0 a1 b0 b1 ≤ mulL c0 c1 d0 d1 ∧ mulH c0 c1 d0 d1 ≤ mulH a0 a1 b0 b1 := by
  have := box_part h0 h h1 g0 g g1
  unfold mulL mulH
  omega
theorem mul_pos {a0 a1 b0 b1 : Int} (h0 : 0 ≤ a0) (h : a0 ≤ a1) (g0 : 0 ≤ b0) (g : b0 ≤ b1) : 0 ≤ mulL a0 a1 b0 b1 := by
  have p1 := Int.mul_nonneg h0 g0
  have p2 := Int.mul_nonneg h0 (show 0 ≤ b1 by omega)
  have p3 := Int.mul_nonneg (show 0 ≤ a1 by omega) g0
  have p4 := Int.mul_nonneg (show 0 ≤ a1 by omega) (show 0 ≤ b1 by omega)
  have hm := (mn4_is (a0 * b0) (a0 * b1) (a1 * b0) (a1 * b1)).2
  unfold mulL m4
  omega
theorem mul_neg {a0 a1 b0 b1 : Int} (h0 : 0 ≤ a0) (h : a0 ≤ a1) (g0 : b0 ≤ b1) (g : b1 ≤ 0) : mulH a0 a1 b0 b1 ≤ 0 := by
  have p1 := Int.mul_nonpos_of_nonneg_of_nonpos h0 (show b0 ≤ 0 by omega)
  have p2 := Int.mul_nonpos_of_nonneg_of_nonpos h0 g
  have p3 := Int.mul_nonpos_of_nonneg_of_nonpos (show 0 ≤ a1 by omega) (show b0 ≤ 0 by omega)
  have p4 := Int.mul_nonpos_of_nonneg_of_nonpos (show 0 ≤ a1 by omega) g
  have hx := (mx4_is (a0 * b0) (a0 * b1) (a1 * b0) (a1 * b1)).2
  unfold mulH x4
  omega
end Go.Proofs.YtkhhdpndcidmgaaGreat
/- Contracts of package meridian and its reference: latitudes at the meridian. -/
namespace Go.Proofs.YtkhhdpndcidmgaaGreat
open Go.RowKit

def latB (x0 y0 : Int) : Bool := decide (x0 ≤ y0 ∧ -5400000 ≤ x0 ∧ y0 ≤ 5400000)
theorem latB_iff {x0 y0 : Int} : latB x0 y0 = true ↔ x0 ≤ y0 ∧ -5400000 ≤ x0 ∧ y0 ≤ 5400000 := by simp [latB]
theorem lat_valid {x0 y0 : Int} (h : latB x0 y0 = true) : validB x0 y0 = true := by
  have := latB_iff.1 h; rw [validB_iff]; omega
set_option maxHeartbeats 400000 in
theorem ref25_Latitude (x0 y0 : Int) (w : World) :
    Calls Tryz.prog 25 #[(.agg #[.int .i64 (x0), .int .i64 (y0)])] w fun e w' => e = .returned (.bool (latB x0 y0)) ∧ ∃ d, w' = bw w d := by
  refine lay_start ?_
  go_enter Tryz.func25, Tryz.ntmps25
  go_wp2
  all_goals go_ret
  all_goals exact ⟨ret_bool (by rw [Bool.eq_iff_iff]; simp [latB]; omega), lay_ex _ _⟩
theorem lat_w1 {x0 y0 : Int} (h1 : validB x0 y0 = true) (h2 : -5400000 ≤ x0) : decide (y0 ≤ 5400000) = latB x0 y0 := by
  have := validB_iff.1 h1; rw [Bool.eq_iff_iff]; simp [latB]; omega
theorem lat_w2 {x0 y0 : Int} (h2 : x0 < -5400000) : false = latB x0 y0 := by rw [Bool.eq_iff_iff]; simp [latB]; omega
theorem lat_w3 {x0 y0 : Int} (h1 : ¬ validB x0 y0 = true) : false = latB x0 y0 := by
  rw [validB_iff] at h1; rw [Bool.eq_iff_iff]; simp [latB]; omega
end Go.Proofs.YtkhhdpndcidmgaaGreat
/- Lists of ints and tracks that came in: how they read; opening them off a row. -/
namespace Go.Proofs.YtkhhdpndcidmgaaGreat
open Go.RowKit

section
variable {H : Type} {enc : TypeId × Value → H} {P : Program}
structure TrkV where
  s : ByteArray
  g : List Int
  d : List Int
  p : Int
  q : Int
  r : Int
end
end Go.Proofs.YtkhhdpndcidmgaaGreat
/- Lists of numbers in a range: package page's and the reference's; valid tracks. -/
namespace Go.Proofs.YtkhhdpndcidmgaaGreat
open Go.RowKit

end Go.Proofs.YtkhhdpndcidmgaaGreat
/- The reference's valid tracks. -/
namespace Go.Proofs.YtkhhdpndcidmgaaGreat
open Go.RowKit

end Go.Proofs.YtkhhdpndcidmgaaGreat
/- Contracts of package increments: Linear, Increment, and their references. -/
namespace Go.Proofs.YtkhhdpndcidmgaaGreat
open Go.RowKit

end Go.Proofs.YtkhhdpndcidmgaaGreat
/- The first day of 2000; a page of one track. -/
namespace Go.Proofs.YtkhhdpndcidmgaaGreat
open Go.RowKit

end Go.Proofs.YtkhhdpndcidmgaaGreat
/- A page of one track is valid just if the track is. -/
namespace Go.Proofs.YtkhhdpndcidmgaaGreat
open Go.RowKit

end Go.Proofs.YtkhhdpndcidmgaaGreat
/- Increments at an instant: the functions that pieces hands on. -/
namespace Go.Proofs.YtkhhdpndcidmgaaGreat
open Go.RowKit

end Go.Proofs.YtkhhdpndcidmgaaGreat
/- increments.pieces: the iterator's contract. -/
namespace Go.Proofs.YtkhhdpndcidmgaaGreat
open Go.RowKit Go.Shelf
attribute [local go_sem] Oper.semAt_some

end Go.Proofs.YtkhhdpndcidmgaaGreat
/- increments.over: the iterator made, the loop over it. -/
namespace Go.Proofs.YtkhhdpndcidmgaaGreat
open Go.RowKit Go.Shelf
attribute [local go_sem] Oper.semAt_some

@[local go_sem] theorem run_store_func {P : Program} {w : World} {a : Addr} {m : Mode} (f : Fn) (x y : Array Value) : (store a (.func f x y) m).run P w = stored P w a (.func f x y) m := run_store P w a _ m rfl
end Go.Proofs.YtkhhdpndcidmgaaGreat
