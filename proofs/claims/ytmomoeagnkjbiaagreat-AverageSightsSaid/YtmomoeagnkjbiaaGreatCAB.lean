/- Contracts and plain laws, several texts in one: Mix; APlain; Sl; PuS -/
import Derived.Test.YtmomoeagnkjbiaaGreatProg
import Derived.WalkKit
import Derived.WalkSpells
import Derived.WalkLawsBesides
import Derived.Lib.Hide
import Derived.BigQuiet
import Derived.Deep.Slices
import Derived.Deep.AppendLies
import Derived.Laws.OwnMore
import Derived.WideShapes
import Derived.Lib.SmallJoins
import Derived.Maps.AppendAt
import Derived.Laws.AppendOwnNone
import Derived.Test.YtmomoeagnkjbiaaGreatCAA
/- Regions that draw their order, in general: quiet operations in any order beside operations that change the world. A schedule says of each operation, in the text's order: 0: quiet (its value is the same in all worlds of a class, and it only adds to the world); 1: it alone may come now; 2: it and the next one may come now, in either order. No program in sight. -/
namespace Go.Proofs.YtmomoeagnkjbiaaGreat
open Go.RowKit

def mUpon {κ : Type} (P : Program) (Cl : κ → World) (k : κ) (v : Value) : Result Next → Prop
  | .ok (.value u) w' => w' = Cl k ∧ u = v
  | .ok .skip w' => w' = Cl k ∧ v = undef
  | .ok (.enter f args) w' => w' = Cl k ∧ Calls P f args (Cl k) (fun e w'' => e = .returned v ∧ ∃ d, w'' = bw (Cl k) d)
  | _ => False
def mOp {κ : Type} (P : Program) (Cl : κ → World) (o : Oper) (a : Act) (next : Act → Prop) : Prop := ∃ v, (∀ k, mUpon P Cl k v ((execOp a.eval o).run P (Cl k))) ∧ next (a.put o.dst v)
def sUpon (P : Program) (K : Act → World → Prop) (a : Act) (dst : Option Tmp) : Result Next → Prop
  | .ok (.value u) w' => K (a.put dst u) w'
  | .ok .skip w' => K (a.put dst undef) w'
  | .ok (.enter f args) w' => Calls P f args w' (fun e w'' => ∃ v, e = .returned v ∧ K (a.put dst v) w'')
  | _ => False
def sOp (P : Program) (o : Oper) (a : Act) (K : Act → World → Prop) (w : World) : Prop := sUpon P K a o.dst ((execOp a.eval o).run P w)
attribute [go_sem] mUpon mOp sUpon sOp

section
variable {P : Program} {ops : Array Oper} {md : Region.Mode} {κ : Type} {Cl : κ → World}

def oneOp (P : Program) (ops : Array Oper) (i : Nat) (K : Act → World → Prop) (a : Act) (w : World) : Prop :=
  match ops[i]? with
  | none => K a w
  | some o => if Region.wanted o (yielded ops a.tmps) then sOp P o a K w else K (a.put o.dst undef) w
theorem oneOp_some {i : Nat} {o : Oper} {K : Act → World → Prop} {a : Act} {w : World} (hi : ops[i]? = some o) :
    oneOp P ops i K a w = if Region.wanted o (yielded ops a.tmps) then sOp P o a K w else K (a.put o.dst undef) w := by unfold oneOp; rw [hi]
theorem sOp_mono {o : Oper} {K K' : Act → World → Prop} {a : Act} {w : World} (h : ∀ a w, K a w → K' a w) (hh : sOp P o a K w) : sOp P o a K' w := by
  unfold sOp at *
  generalize (execOp a.eval o).run P w = r at *
  cases r with
  | ok nx w' =>
    cases nx <;> simp only [sUpon] at hh ⊢
    case value x => exact h _ _ hh
    case skip => exact h _ _ hh
    case enter f args => exact hh.mono fun e w'' ⟨v, he, hk⟩ => ⟨v, he, h _ _ hk⟩
  | halt x w' => simp only [sUpon] at hh
theorem oneOp_mono {i : Nat} {K K' : Act → World → Prop} {a : Act} {w : World} (h : ∀ a w, K a w → K' a w) (hh : oneOp P ops i K a w) : oneOp P ops i K' a w := by
  unfold oneOp at *
  split
  · rename_i ho; simp only [ho] at hh; exact h _ _ hh
  · rename_i o ho
    simp only [ho] at hh
    split
    · rename_i hw; rw [if_pos hw] at hh; exact sOp_mono h hh
    · rename_i hw; rw [if_neg hw] at hh; exact h _ _ hh
theorem wp_of_sOp {o : Oper} {K : Act → World → Prop} {Q' : Exit → Act → World → Prop} {a : Act} {w : World} (hh : sOp P o a K w) : o.wp P a w K Q' := by
  unfold sOp at hh
  unfold Oper.wp
  generalize (execOp a.eval o).run P w = r at *
  cases r with
  | ok nx w' =>
    cases nx <;> simp only [sUpon] at hh <;> simp only [Oper.upon]
    case value x => exact hh
    case skip => exact hh
    case enter f args => exact hh.mono fun e w'' ⟨v, he, hk⟩ => by subst he; exact hk
  | halt x w' => simp only [sUpon] at hh

def wpC (P : Program) (md : Region.Mode) (ops : Array Oper) (Cl : κ → World) (Q : Act → World → Prop) : Nat → Array Bool → Act → World → Prop
  | 0, listed, a, w => Region.ready md ops listed = [] ∧ ∀ d, Q a (bw w d)
  | f + 1, listed, a, w => Region.ready md ops listed ≠ [] ∧ ∀ i ∈ Region.ready md ops listed, ∀ d, oneOp P ops i (fun a' w' => (∃ k, w' = Cl k) ∧ wpC P md ops Cl Q f (listed.setIfInBounds i true) a' w') a (bw w d)
def noExt (w : World) : Ext := ⟨#[], w.drawn⟩
theorem bw_noExt (w : World) : bw w (noExt w) = w := by
  show ({ w with heap := w.heap ++ #[], drawn := w.drawn } : World) = w
  rw [Array.append_empty]
theorem wpC_ext {Q : Act → World → Prop} : ∀ {f : Nat} {listed : Array Bool} {a : Act} {w : World} (d : Ext), wpC P md ops Cl Q f listed a w → wpC P md ops Cl Q f listed a (bw w d)
  | 0, _, _, w, d, h => ⟨h.1, fun e => by rw [bw_bw]; exact h.2 _⟩
  | _ + 1, _, _, w, d, h => ⟨h.1, fun i hi e => by rw [bw_bw]; exact h.2 i hi _⟩
theorem wpC_sound {Q' : Exit → Act → World → Prop} : ∀ (f : Nat) (listed : Array Bool) (a : Act) (w : World), wpC P md ops Cl (fun a w => Q' .normal a w) f listed a w → wpAny P md ops Q' f listed a w
  | 0, listed, a, w, h => ⟨h.1, by have := h.2 (noExt w); rwa [bw_noExt] at this⟩
  | f + 1, listed, a, w, h => by
    refine ⟨fun h0 => absurd h0 h.1, fun i hi => ?_⟩
    have h1 := h.2 i hi (noExt w)
    rw [bw_noExt] at h1
    unfold oneOp at h1
    unfold wpOp
    split
    · rename_i ho; simp only [ho] at h1; exact wpC_sound f _ _ _ h1.2
    · rename_i o ho
      simp only [ho] at h1
      split
      · rename_i hw; rw [if_pos hw] at h1
        exact Or.inl (wp_of_sOp (sOp_mono (fun a w hk => wpC_sound f _ a w hk.2) h1))
      · rename_i hw; rw [if_neg hw] at h1; exact wpC_sound f _ _ _ h1.2

/-- In state a the operation yields v, in every world of the class. -/
def YieldsM (P : Program) (ops : Array Oper) (Cl : κ → World) (o : Oper) (v : Value) (a : Act) : Prop :=
  (Region.wanted o (yielded ops a.tmps) = true ∧ ∀ k, mUpon P Cl k v ((execOp a.eval o).run P (Cl k))) ∨ (Region.wanted o (yielded ops a.tmps) = false ∧ v = undef)
theorem YieldsM.oneOp {i : Nat} {o : Oper} {v : Value} {a : Act} {w : World} (hi : ops[i]? = some o) (hy : YieldsM P ops Cl o v a) (hw : ∃ k, w = Cl k) {K : Act → World → Prop}
    (h0 : K (a.put o.dst v) w) (h : ∀ d, K (a.put o.dst v) (bw w d)) : Go.Proofs.YtmomoeagnkjbiaaGreat.oneOp P ops i K a w := by
  rw [oneOp_some hi]
  rcases hy with ⟨hw1, hv⟩ | ⟨hw1, rfl⟩
  · rw [if_pos hw1]
    obtain ⟨k, rfl⟩ := hw
    have h3 := hv k
    unfold sOp
    generalize (execOp a.eval o).run P (Cl k) = r at *
    cases r with
    | ok nx w' =>
      cases nx <;> simp only [mUpon] at h3 <;> simp only [sUpon]
      case value x => obtain ⟨e1, e2⟩ := h3; rw [e1, e2]; exact h0
      case skip => obtain ⟨e1, e2⟩ := h3; rw [e1, ← e2]; exact h0
      case enter f args =>
        obtain ⟨e1, hc⟩ := h3
        rw [e1]
        exact hc.mono fun e w'' ⟨he, d, hd⟩ => ⟨v, he, by rw [hd]; exact h d⟩
    | halt x w' => simp only [mUpon] at h3
  · rw [if_neg (by rw [hw1]; exact Bool.false_ne_true)]; exact h0
theorem YieldsM.keep {oi oj : Oper} {v : Value} {a : Act} (hsi : ∀ cs b, oi.op ≠ .select cs b) (h3 : ∀ d, oj.dst = some d → d ∉ oi.looksAt ops) (hy : YieldsM P ops Cl oi v a) (u : Value) : YieldsM P ops Cl oi v (a.put oj.dst u) := by
  unfold YieldsM at *
  rw [execOp_put oi hsi a oj.dst u h3, wanted_put oi a oj.dst u h3]
  exact hy
theorem oneOp_put {j : Nat} {oi oj : Oper} {v : Value} {w : World} (hj : ops[j]? = some oj) (hap : oi.apart ops oj = true)
    (hsi : ∀ cs b, oi.op ≠ .select cs b) (hsj : ∀ cs b, oj.op ≠ .select cs b) {K : Act → World → Prop} {a : Act}
    (hy : YieldsM P ops Cl oi v a) (h : oneOp P ops j K (a.put oi.dst v) w) :
    oneOp P ops j (fun a' w' => YieldsM P ops Cl oi v a' ∧ K (a'.put oi.dst v) w') a w := by
  obtain ⟨h1, h2, h3⟩ := Oper.apart_spec hap
  rw [oneOp_some hj, wanted_put oj a oi.dst v h1] at h
  rw [oneOp_some hj]
  split
  · rename_i hw
    rw [if_pos hw] at h
    unfold sOp at *
    rw [execOp_put oj hsj a oi.dst v h1] at h
    generalize (execOp a.eval oj).run P w = r at *
    cases r with
    | ok nx w' =>
      cases nx <;> simp only [sUpon] at h ⊢
      case value x => exact ⟨hy.keep hsi h3 _, by rw [← Act.put_comm a v x h2]; exact h⟩
      case skip => exact ⟨hy.keep hsi h3 _, by rw [← Act.put_comm a v undef h2]; exact h⟩
      case enter f args => exact h.mono fun e w'' ⟨u, he, hk⟩ => ⟨u, he, hy.keep hsi h3 _, by rw [← Act.put_comm a v u h2]; exact hk⟩
    | halt x w' => simp only [sUpon] at h
  · rename_i hw
    rw [if_neg hw] at h
    exact ⟨hy.keep hsi h3 _, by rw [← Act.put_comm a v undef h2]; exact h⟩

theorem wpC_first {i : Nat} {oi : Oper} {v : Value} {Q : Act → World → Prop} (hCl : ∀ k d, ∃ k', bw (Cl k) d = Cl k') (hi : ops[i]? = some oi) (hsel : ∀ (j : Nat) (o : Oper) cs b, ops[j]? = some o → o.op ≠ .select cs b) :
    ∀ (f : Nat) (listed : Array Bool) (a : Act) (w : World), (∃ k, w = Cl k) →
      (∀ j oj, ops[j]? = some oj → j ≠ i → listed.getD j true = false → (∀ e ∈ oj.after, Region.binds md e = true → e.on ≠ i) → oi.apart ops oj = true) →
      i ∈ Region.ready md ops listed → YieldsM P ops Cl oi v a →
      wpC P md ops Cl Q f (listed.setIfInBounds i true) (a.put oi.dst v) w → wpC P md ops Cl Q (f + 1) listed a w := by
  have cl : ∀ w d, (∃ k, w = Cl k) → ∃ k, bw w d = Cl k := fun w d ⟨k, hk⟩ => by rw [hk]; exact hCl k d
  intro f
  induction f with
  | zero =>
    intro listed a w hw _ hr hy H
    refine ⟨List.ne_nil_of_mem hr, fun j hj d => ?_⟩
    by_cases hji : j = i
    · subst hji
      exact hy.oneOp hi (cl w d hw) ⟨cl w d hw, wpC_ext d H⟩ (fun e => ⟨cl _ e (cl w d hw), wpC_ext e (wpC_ext d H)⟩)
    · have := ready_mono hj hji
      rw [H.1] at this; cases this
  | succ f ih =>
    intro listed a w hw hfree hr hy H
    have hun := (mem_ready.1 hr).1
    refine ⟨List.ne_nil_of_mem hr, fun j hj d => ?_⟩
    by_cases hji : j = i
    · subst hji
      exact hy.oneOp hi (cl w d hw) ⟨cl w d hw, wpC_ext d H⟩ (fun e => ⟨cl _ e (cl w d hw), wpC_ext e (wpC_ext d H)⟩)
    · have h1 := H.2 j (ready_mono hj hji) d
      obtain ⟨hjun, oj, hoj, hall⟩ := mem_ready.1 hj
      have hnot : ∀ e ∈ oj.after, Region.binds md e = true → e.on ≠ i := fun e he hb heq => by
        have h2 := hall e he hb
        have h3 : listed.getD i false = false := by
          rcases Nat.lt_or_ge i listed.size with h' | h'
          · simp [h'] at hun ⊢; exact hun
          · simp [Array.getElem?_eq_none h'] at hun
        rw [heq, h3] at h2
        cases h2
      have h2 := oneOp_put hoj (hfree j oj hoj hji hjun hnot) (fun cs b => hsel i oi cs b hi) (fun cs b => hsel j oj cs b hoj) hy h1
      have hfree' : ∀ k ok, ops[k]? = some ok → k ≠ i → (listed.setIfInBounds j true).getD k true = false →
          (∀ e ∈ ok.after, Region.binds md e = true → e.on ≠ i) → oi.apart ops ok = true := fun k ok hk hki hu hno => by
        refine hfree k ok hk hki ?_ hno
        by_cases hjk : j = k
        · subst hjk; exact hjun
        · rw [getD_set_ne true hjk] at hu; exact hu
      refine oneOp_mono (fun a' w' h3 => ⟨h3.2.1, ih (listed.setIfInBounds j true) a' w' h3.2.1 hfree' (ready_mono hr (Ne.symm hji)) h3.1 ?_⟩) h2
      rw [Array.setIfInBounds_comm _ _ hji]
      exact h3.2.2

/-- The walk by a schedule. -/
def wpM (P : Program) (ops : Array Oper) (Cl : κ → World) (Q : Act → World → Prop) : List Nat → List Oper → Act → World → Prop
  | 0 :: s, o :: l, a, w => if Region.wanted o (yielded ops a.tmps) then mOp P Cl o a (fun a' => wpM P ops Cl Q s l a' w) else wpM P ops Cl Q s l (a.put o.dst undef) w
  | 1 :: s, o :: l, a, w => ∀ d, if Region.wanted o (yielded ops a.tmps) then sOp P o a (fun a' w' => (∃ k, w' = Cl k) ∧ wpM P ops Cl Q s l a' w') (bw w d) else (∃ k, bw w d = Cl k) ∧ wpM P ops Cl Q s l (a.put o.dst undef) (bw w d)
  | 2 :: s, o1 :: o2 :: l, a, w =>
    (∀ d, sOp P o1 a (fun a' w' => (∃ k, w' = Cl k) ∧ ∀ d', sOp P o2 a' (fun a'' w'' => (∃ k, w'' = Cl k) ∧ wpM P ops Cl Q s l a'' w'') (bw w' d')) (bw w d)) ∧
    (∀ d, sOp P o2 a (fun a' w' => (∃ k, w' = Cl k) ∧ ∀ d', sOp P o1 a' (fun a'' w'' => (∃ k, w'' = Cl k) ∧ wpM P ops Cl Q s l a'' w'') (bw w' d')) (bw w d))
  | _, [], a, w => ∀ d, Q a (bw w d)
  | _, _, _, _ => False
def lexM (md : Region.Mode) (ops : Array Oper) : List Nat → Nat → Array Bool → Bool
  | [], k, listed => decide (k = ops.size) && (Region.ready md ops listed).isEmpty
  | 0 :: s, k, listed => decide (k < ops.size) && (Region.ready md ops listed).contains k && Region.free md ops listed k && lexM md ops s (k + 1) (listed.setIfInBounds k true)
  | 1 :: s, k, listed => decide (k < ops.size) && decide (Region.ready md ops listed = [k]) && lexM md ops s (k + 1) (listed.setIfInBounds k true)
  | 2 :: s, k, listed => decide (k + 1 < ops.size) && decide (Region.ready md ops listed = [k, k + 1]) && decide (Region.ready md ops (listed.setIfInBounds k true) = [k + 1]) && decide (Region.ready md ops (listed.setIfInBounds (k + 1) true) = [k]) &&
    (match ops[k]?, ops[k + 1]? with | some o1, some o2 => o1.guard.isNone && o2.guard.isNone | _, _ => false) && lexM md ops s (k + 2) ((listed.setIfInBounds k true).setIfInBounds (k + 1) true)
  | _, _, _ => false

theorem wpC_of_wpM {Q : Act → World → Prop} (hCl : ∀ k d, ∃ k', bw (Cl k) d = Cl k') (hsel : Region.noSelect ops = true) :
    ∀ (s : List Nat) (l : List Oper) (k : Nat) (listed : Array Bool) (a : Act) (w : World), (∀ j, l[j]? = ops[k + j]?) → (∃ k, w = Cl k) → lexM md ops s k listed = true →
    wpM P ops Cl Q s l a w → wpC P md ops Cl Q l.length listed a w
  | [], l, k, listed, a, w, hl, hw, hB, h => by
    simp only [lexM, Bool.and_eq_true, decide_eq_true_eq, List.isEmpty_iff] at hB
    have : l = [] := by
      cases l with
      | nil => rfl
      | cons o l => have := hl 0; rw [Nat.add_zero, hB.1, Array.getElem?_eq_none (Nat.le_refl _)] at this; simp at this
    subst this
    exact ⟨hB.2, h⟩
  | 0 :: s, l, k, listed, a, w, hl, hw, hB, h => by
    simp only [lexM, Bool.and_eq_true, decide_eq_true_eq] at hB
    obtain ⟨⟨⟨hk, hr⟩, hf⟩, hB'⟩ := hB
    cases l with
    | nil => have := hl 0; rw [Nat.add_zero, Array.getElem?_eq_getElem hk] at this; simp at this
    | cons o l =>
      have h0 : ops[k]? = some o := by simpa using (hl 0).symm
      have hr' : k ∈ Region.ready md ops listed := by simpa using hr
      have hy : ∃ v, YieldsM P ops Cl o v a ∧ wpM P ops Cl Q s l (a.put o.dst v) w := by
        simp only [wpM] at h
        by_cases hw1 : Region.wanted o (yielded ops a.tmps) = true
        · rw [if_pos hw1] at h
          obtain ⟨v, h1, h2⟩ := h
          exact ⟨v, .inl ⟨hw1, h1⟩, h2⟩
        · rw [if_neg hw1] at h
          exact ⟨undef, .inr ⟨by simpa using hw1, rfl⟩, h⟩
      obtain ⟨v, hy, hK⟩ := hy
      exact wpC_first hCl h0 (Region.noSelect_spec hsel) l.length listed a w hw (Region.free_spec h0 hf) hr' hy
        (wpC_of_wpM hCl hsel s l (k + 1) _ _ w (fun j => by have := hl (j + 1); simpa [Nat.add_assoc, Nat.add_comm 1 j] using this) hw hB' hK)
  | 1 :: s, l, k, listed, a, w, hl, hw, hB, h => by
    simp only [lexM, Bool.and_eq_true, decide_eq_true_eq] at hB
    obtain ⟨⟨hk, hr⟩, hB'⟩ := hB
    cases l with
    | nil => have := hl 0; rw [Nat.add_zero, Array.getElem?_eq_getElem hk] at this; simp at this
    | cons o l =>
      have h0 : ops[k]? = some o := by simpa using (hl 0).symm
      have hl' : ∀ j, l[j]? = ops[k + 1 + j]? := fun j => by have := hl (j + 1); simpa [Nat.add_assoc, Nat.add_comm 1 j] using this
      refine ⟨by rw [hr]; simp, fun i hi d => ?_⟩
      rw [hr] at hi
      obtain rfl : i = k := by simpa using hi
      simp only [wpM] at h
      have hd := h d
      rw [oneOp_some h0]
      split
      · rename_i hw1; rw [if_pos hw1] at hd
        exact sOp_mono (fun a' w' hk => ⟨hk.1, wpC_of_wpM hCl hsel s l (i + 1) _ _ w' hl' hk.1 hB' hk.2⟩) hd
      · rename_i hw1; rw [if_neg hw1] at hd
        exact ⟨hd.1, wpC_of_wpM hCl hsel s l (i + 1) _ _ _ hl' hd.1 hB' hd.2⟩
  | 2 :: s, l, k, listed, a, w, hl, hw, hB, h => by
    simp only [lexM, Bool.and_eq_true, decide_eq_true_eq] at hB
    obtain ⟨⟨⟨⟨⟨hk, hr⟩, hr1⟩, hr2⟩, hg⟩, hB'⟩ := hB
    match l with
    | [] => have := hl 0; rw [Nat.add_zero, Array.getElem?_eq_getElem (by omega)] at this; simp at this
    | [o] => have := hl 1; rw [Array.getElem?_eq_getElem hk] at this; simp at this
    | o1 :: o2 :: l =>
      have h1 : ops[k]? = some o1 := by simpa using (hl 0).symm
      have h2 : ops[k + 1]? = some o2 := by simpa using (hl 1).symm
      have hl' : ∀ j, l[j]? = ops[k + 2 + j]? := fun j => by have := hl (j + 2); simpa [Nat.add_assoc, Nat.add_comm 2 j] using this
      rw [h1, h2] at hg
      simp only [Bool.and_eq_true, Option.isNone_iff_eq_none] at hg
      have wa : ∀ a, Region.wanted o1 (yielded ops a) = true := fun a => by simp [Region.wanted, hg.1]
      have wb : ∀ a, Region.wanted o2 (yielded ops a) = true := fun a => by simp [Region.wanted, hg.2]
      simp only [wpM] at h
      refine ⟨by rw [hr]; simp, fun i hi d => ?_⟩
      rw [hr] at hi
      simp only [List.mem_cons, List.not_mem_nil, or_false] at hi
      rcases hi with rfl | rfl
      · rw [oneOp_some h1, if_pos (wa _)]
        refine sOp_mono (fun a' w' hk => ⟨hk.1, by rw [hr1]; simp, fun j hj e => ?_⟩) (h.1 d)
        rw [hr1] at hj
        obtain rfl : j = i + 1 := by simpa using hj
        rw [oneOp_some h2, if_pos (wb _)]
        exact sOp_mono (fun a'' w'' hk' => ⟨hk'.1, wpC_of_wpM hCl hsel s l (i + 2) _ _ w'' hl' hk'.1 hB' hk'.2⟩) (hk.2 e)
      · rw [oneOp_some h2, if_pos (wb _)]
        refine sOp_mono (fun a' w' hq => ⟨hq.1, by rw [hr2]; simp, fun j hj e => ?_⟩) (h.2 d)
        rw [hr2] at hj
        obtain rfl : j = k := by simpa using hj
        rw [oneOp_some h1, if_pos (wa _)]
        refine sOp_mono (fun a'' w'' hk' => ⟨hk'.1, wpC_of_wpM hCl hsel s l (j + 2) _ _ w'' hl' hk'.1 ?_ hk'.2⟩) (hq.2 e)
        rw [Array.setIfInBounds_comm _ _ (by omega)]; exact hB'
  | (_ + 3) :: _, _, _, _, _, _, _, _, hB, _ => by simp [lexM] at hB

/-- A region that draws its order, by a schedule. -/
theorem region_mix {id : Nat} {Q : Exit → Act → World → Prop} {a : Act} {w : World} {l : List Oper} (s : List Nat) (Cl : κ → World) (hm : P.follows .mixedOrders = true) (hsel : Region.noSelect l.toArray = true)
    (hB : lexM .any l.toArray s 0 (Array.replicate l.toArray.size false) = true) (hCl : ∀ k d, ∃ k', bw (Cl k) d = Cl k') (hw : ∃ k, w = Cl k)
    (h : wpM P l.toArray Cl (fun a w => Q .normal a w) s l a w) : (Code.region id l.toArray true).wp P Q a w := by
  refine wp_region_any hm ?_
  have := wpC_of_wpM (md := .any) hCl hsel s l 0 _ a w (fun j => by simp) hw hB h
  have := wpC_ext (⟨#[], w.drawn + 1⟩ : Ext) this
  rw [← bw_drewExt] at this
  have := wpC_sound (Q' := Q) _ _ _ _ this
  simpa using this
/-- The usual class: worlds that extend this one. -/
theorem region_mixW {id : Nat} {Q : Exit → Act → World → Prop} {a : Act} {w : World} {l : List Oper} (s : List Nat) (hm : P.follows .mixedOrders = true) (hsel : Region.noSelect l.toArray = true)
    (hB : lexM .any l.toArray s 0 (Array.replicate l.toArray.size false) = true)
    (h : wpM P l.toArray (fun d => bw w d) (fun a w => Q .normal a w) s l a w) : (Code.region id l.toArray true).wp P Q a w :=
  region_mix s (fun d => bw w d) hm hsel hB (fun k d => ⟨_, bw_bw w k d⟩) ⟨noExt w, (bw_noExt w).symm⟩ h

theorem wpM_quiet {Q : Act → World → Prop} {a : Act} {w : World} {o : Oper} {l : List Oper} {s : List Nat}
    (h : ∀ K : Act → Prop, (∀ a, wpM P ops Cl Q s l a w → K a) → if Region.wanted o (yielded ops a.tmps) then mOp P Cl o a K else K (a.put o.dst undef)) : wpM P ops Cl Q (0 :: s) (o :: l) a w :=
  h _ (fun _ h => h)
theorem wpM_special {Q : Act → World → Prop} {a : Act} {w : World} {o : Oper} {l : List Oper} {s : List Nat}
    (h : ∀ (K : Act → World → Prop), (∀ a' w', (∃ k, w' = Cl k) → wpM P ops Cl Q s l a' w' → K a' w') → ∀ d, if Region.wanted o (yielded ops a.tmps) then sOp P o a K (bw w d) else K (a.put o.dst undef) (bw w d)) : wpM P ops Cl Q (1 :: s) (o :: l) a w := fun d => by
  have := h (fun a' w' => (∃ k, w' = Cl k) ∧ wpM P ops Cl Q s l a' w') (fun _ _ h1 h2 => ⟨h1, h2⟩) d
  split
  · rename_i hw; rw [if_pos hw] at this; exact this
  · rename_i hw; rw [if_neg hw] at this; exact this
theorem wpM_two {Q : Act → World → Prop} {a : Act} {w : World} {o1 o2 : Oper} {l : List Oper} {s : List Nat}
    (h1 : ∀ (J : Act → World → Prop), (∀ a' w', (∃ k, w' = Cl k) → (∀ (K : Act → World → Prop), (∀ a'' w'', (∃ k, w'' = Cl k) → wpM P ops Cl Q s l a'' w'' → K a'' w'') → ∀ d, sOp P o2 a' K (bw w' d)) → J a' w') → ∀ d, sOp P o1 a J (bw w d))
    (h2 : ∀ (J : Act → World → Prop), (∀ a' w', (∃ k, w' = Cl k) → (∀ (K : Act → World → Prop), (∀ a'' w'', (∃ k, w'' = Cl k) → wpM P ops Cl Q s l a'' w'' → K a'' w'') → ∀ d, sOp P o1 a' K (bw w' d)) → J a' w') → ∀ d, sOp P o2 a J (bw w d)) :
    wpM P ops Cl Q (2 :: s) (o1 :: o2 :: l) a w :=
  ⟨h1 _ fun _ _ hc hk => ⟨hc, fun d => hk _ (fun _ _ c h => ⟨c, h⟩) d⟩, h2 _ fun _ _ hc hk => ⟨hc, fun d => hk _ (fun _ _ c h => ⟨c, h⟩) d⟩⟩
theorem wpM_nil {Q : Act → World → Prop} {a : Act} {w : World} (h : ∀ d, Q a (bw w d)) : wpM P ops Cl Q [] [] a w := h
end
theorem lay_append (w : World) (L : List (Obj ⊕ Ext)) : ∀ L1, lay w (L1 ++ L) = lay (lay w L) L1
  | [] => rfl
  | .inl o :: L1 => by show (lay w (L1 ++ L)).alloc o = (lay (lay w L) L1).alloc o; rw [lay_append w L L1]
  | .inr d :: L1 => by show bw (lay w (L1 ++ L)) d = bw (lay (lay w L) L1) d; rw [lay_append w L L1]
theorem lay_fold (w : World) (L1 L : List (Obj ⊕ Ext)) : ∃ e, lay w (L1 ++ L) = lay w (.inr e :: L) := by
  obtain ⟨e, he⟩ := lay_ex (lay w L) L1
  exact ⟨e, (lay_append w L L1).trans he⟩
theorem lay_all (w : World) (L : List (Obj ⊕ Ext)) : ∃ e, lay w L = lay w [.inr e] := by
  obtain ⟨e, he⟩ := lay_ex w L
  exact ⟨e, he⟩
/-- Whatever lies behind a world that is laid out is in its class. -/
theorem lay_in (w : World) (L1 L : List (Obj ⊕ Ext)) : ∃ d, lay w (L1 ++ L) = bw (lay w L) d := by
  induction L1 with
  | nil => exact ⟨noExt _, (bw_noExt _).symm⟩
  | cons x L1 ih =>
    obtain ⟨d, hd⟩ := ih
    cases x with
    | inl o =>
      obtain ⟨e, he⟩ := bw_of ((bw_below (lay w L) d).alloc (bw_le _ d) o)
      exact ⟨e, by show (lay w (L1 ++ L)).alloc o = _; rw [hd]; exact he⟩
    | inr e => exact ⟨_, by show bw (lay w (L1 ++ L)) e = _; rw [hd]; exact bw_bw _ _ _⟩
end Go.Proofs.YtmomoeagnkjbiaaGreat
/- Audit, the plain law: steps, differences, possible lists, repairs. No program in sight. -/
namespace Go.Proofs.YtmomoeagnkjbiaaGreat
open Go.RowKit

def nth (g : List Int) (i : Nat) : Int := g.getD i 0
theorem nth_set (l : List Int) (at_ : Nat) (v : Int) (h : at_ < l.length) (i : Nat) : nth (l.set at_ v) i = if i = at_ then v else nth l i := by
  unfold nth
  by_cases e : i = at_
  · subst e; rw [if_pos rfl]; simp [List.getD, h]
  · rw [if_neg e]
    simp only [List.getD]
    rw [List.getElem?_set_ne (fun h => e h.symm)]
def frm (wr : Bool) (n : Int) : Int := if wr then n % 216000 else n
def stp (wr : Bool) (l : List Int) (i : Nat) : Int := frm wr (nth l (i + 1) - nth l i)
/-- The difference of the order 2 with a centre. -/
def sec (wr : Bool) (l : List Int) (i : Nat) : Int := stp wr l i - stp wr l (i - 1)
def badB (bend d : Int) : Bool := decide (bend + 2 < d ∨ d < -bend - 2)
theorem badB_f {bend d : Int} : badB bend d = false ↔ -(bend + 2) ≤ d ∧ d ≤ bend + 2 := by simp [badB]; omega
/-- The centres of bad differences from one up to before another one. -/
def badN (wr : Bool) (l : List Int) (bend : Int) (lo hi : Nat) : List Nat := (List.range' lo (hi - lo)).filter fun i => badB bend (sec wr l i)
def badL (wr : Bool) (l : List Int) (bend : Int) (lo hi : Nat) : List Int := (badN wr l bend lo hi).map Int.ofNat
theorem mem_badN {wr : Bool} {l : List Int} {bend : Int} {lo hi i : Nat} : i ∈ badN wr l bend lo hi ↔ lo ≤ i ∧ i < hi ∧ badB bend (sec wr l i) = true := by
  unfold badN
  rw [List.mem_filter, List.mem_range'_1]
  constructor
  · rintro ⟨⟨h1, h2⟩, h3⟩; exact ⟨h1, by omega, h3⟩
  · rintro ⟨h1, h2, h3⟩; exact ⟨⟨h1, by omega⟩, h3⟩
theorem badN_nil {wr : Bool} {l : List Int} {bend : Int} {lo hi : Nat} : badN wr l bend lo hi = [] ↔ ∀ i, lo ≤ i → i < hi → badB bend (sec wr l i) = false := by
  rw [List.eq_nil_iff_forall_not_mem]
  constructor
  · intro h i h1 h2
    cases e : badB bend (sec wr l i)
    · rfl
    · exact absurd (mem_badN.2 ⟨h1, h2, e⟩) (h i)
  · intro h i hi
    obtain ⟨h1, h2, h3⟩ := mem_badN.1 hi
    rw [h i h1 h2] at h3; cases h3
theorem badN_step (wr : Bool) (l : List Int) (bend : Int) (lo k : Nat) (h : lo ≤ k) : badN wr l bend lo (k + 1) = badN wr l bend lo k ++ if badB bend (sec wr l k) then [k] else [] := by
  unfold badN
  rw [show k + 1 - lo = (k - lo) + 1 by omega, List.range'_concat, List.filter_append]
  congr 1
  rw [show lo + 1 * (k - lo) = k by omega]
  simp only [List.filter_cons, List.filter_nil]
theorem badN_self (wr : Bool) (l : List Int) (bend : Int) (lo hi : Nat) (h : hi ≤ lo) : badN wr l bend lo hi = [] := by
  unfold badN; rw [show hi - lo = 0 by omega]; rfl
theorem badL_len {wr : Bool} {l : List Int} {bend : Int} {lo hi : Nat} : (badL wr l bend lo hi).length ≤ hi - lo := by
  unfold badL badN
  rw [List.length_map]
  exact Nat.le_trans (List.length_filter_le _ _) (by simp)
theorem mem_badL {wr : Bool} {l : List Int} {bend : Int} {lo hi : Nat} {x : Int} : x ∈ badL wr l bend lo hi ↔ ∃ i : Nat, x = i ∧ lo ≤ i ∧ i < hi ∧ badB bend (sec wr l i) = true := by
  unfold badL
  rw [List.mem_map]
  constructor
  · rintro ⟨i, h, rfl⟩; exact ⟨i, rfl, mem_badN.1 h⟩
  · rintro ⟨i, rfl, h⟩; exact ⟨i, mem_badN.2 h, rfl⟩

/-- Strictly ascending. -/
def Asc (l : List Int) : Prop := l.Pairwise (· < ·)
theorem asc_eq : ∀ {a b : List Int}, Asc a → Asc b → (∀ x, x ∈ a ↔ x ∈ b) → a = b
  | [], [], _, _, _ => rfl
  | [], y :: b, _, _, h => absurd ((h y).2 (List.mem_cons_self ..)) (List.not_mem_nil)
  | x :: a, [], _, _, h => absurd ((h x).1 (List.mem_cons_self ..)) (List.not_mem_nil)
  | x :: a, y :: b, ha, hb, h => by
    obtain ⟨hx, ha'⟩ := List.pairwise_cons.1 ha
    obtain ⟨hy, hb'⟩ := List.pairwise_cons.1 hb
    have e : x = y := by
      rcases List.mem_cons.1 ((h x).1 (List.mem_cons_self ..)) with e | e
      · exact e
      · rcases List.mem_cons.1 ((h y).2 (List.mem_cons_self ..)) with e2 | e2
        · exact e2.symm
        · have h1 : x < y := hx y e2
          have h2 : y < x := hy x e
          omega
    subst e
    congr 1
    refine asc_eq ha' hb' fun z => ?_
    constructor
    · intro hz
      rcases List.mem_cons.1 ((h z).1 (List.mem_cons_of_mem _ hz)) with e | e
      · subst e; exact absurd (hx z hz) (Int.lt_irrefl z)
      · exact e
    · intro hz
      rcases List.mem_cons.1 ((h z).2 (List.mem_cons_of_mem _ hz)) with e | e
      · subst e; exact absurd (hy z hz) (Int.lt_irrefl z)
      · exact e
theorem asc_filter {l : List Int} (h : Asc l) (p : Int → Bool) : Asc (l.filter p) := List.Pairwise.filter p h
/-- An ascending list with a further element, each once. -/
def putI (x : Int) : List Int → List Int
  | [] => [x]
  | y :: l => if y < x then y :: putI x l else if y = x then y :: l else x :: y :: l
theorem mem_putI {x : Int} : ∀ {l : List Int} {z : Int}, z ∈ putI x l ↔ z = x ∨ z ∈ l
  | [], z => by simp [putI]
  | y :: l, z => by
    unfold putI
    split
    · rw [List.mem_cons, mem_putI, List.mem_cons]
      constructor
      · rintro (h | h | h)
        · exact .inr (.inl h)
        · exact .inl h
        · exact .inr (.inr h)
      · rintro (h | h | h)
        · exact .inr (.inl h)
        · exact .inl h
        · exact .inr (.inr h)
    · split
      · rename_i h; subst h
        constructor
        · exact .inr
        · rintro (h | h)
          · subst h; exact List.mem_cons_self ..
          · exact h
      · rw [List.mem_cons]
theorem asc_putI {x : Int} : ∀ {l : List Int}, Asc l → Asc (putI x l)
  | [], _ => List.pairwise_singleton ..
  | y :: l, h => by
    obtain ⟨hy, hl⟩ := List.pairwise_cons.1 h
    unfold putI
    split
    · rename_i hlt
      refine List.pairwise_cons.2 ⟨fun z hz => ?_, asc_putI hl⟩
      rcases mem_putI.1 hz with e | e
      · subst e; exact hlt
      · exact hy z e
    · split
      · exact h
      · refine List.pairwise_cons.2 ⟨fun z hz => ?_, h⟩
        rcases List.mem_cons.1 hz with e | e
        · subst e; omega
        · have := hy z e; omega

/-- May a number be an entry? -/
def permB (wr : Bool) (n : Int) : Bool := if wr then decide (0 ≤ n ∧ n < 216000) else decide (-1048576 ≤ n ∧ n ≤ 1048576)
def givE (wr : Bool) (l : List Int) : Int := if l.length < 3 ∨ 1000 < l.length then 3 else if l.all (permB wr) then 0 else 1
structure Giv (wr : Bool) (l : List Int) : Prop where
  n3 : 3 ≤ l.length
  n1000 : l.length ≤ 1000
  perm : ∀ i, i < l.length → permB wr (nth l i) = true
theorem giv_iff {wr : Bool} {l : List Int} : givE wr l = 0 ↔ Giv wr l := by
  unfold givE
  constructor
  · intro h
    split at h
    · cases h
    · rename_i h1
      split at h
      · rename_i h2
        refine ⟨by omega, by omega, fun i hi => ?_⟩
        have := List.all_eq_true.1 h2 (nth l i) (by unfold nth; simp [List.getD, hi])
        exact this
      · cases h
  · rintro ⟨h1, h2, h3⟩
    rw [if_neg (by omega), if_pos]
    rw [List.all_eq_true]
    intro x hx
    obtain ⟨i, hi, rfl⟩ := List.getElem_of_mem hx
    have := h3 i hi
    unfold nth at this
    simpa [List.getD, hi] using this
theorem perm_bd {wr : Bool} {n : Int} (h : permB wr n = true) : -1048576 ≤ n ∧ n ≤ 1048576 := by
  unfold permB at h
  cases wr
  · simpa using h
  · simp at h; omega
theorem frm_bd {wr : Bool} {a b : Int} (ha : permB wr a = true) (hb : permB wr b = true) : -2097152 ≤ frm wr (a - b) ∧ frm wr (a - b) ≤ 2097152 := by
  unfold permB at ha hb; unfold frm
  cases wr
  · simp at ha hb ⊢; omega
  · simp at ha hb ⊢; omega
theorem stp_bd {wr : Bool} {l : List Int} (h : Giv wr l) {i : Nat} (hi : i + 1 < l.length) : -2097152 ≤ stp wr l i ∧ stp wr l i ≤ 2097152 := frm_bd (h.perm _ hi) (h.perm _ (by omega))
theorem sec_bd {wr : Bool} {l : List Int} (h : Giv wr l) {i : Nat} (h0 : 1 ≤ i) (hi : i + 1 < l.length) : -4194304 ≤ sec wr l i ∧ sec wr l i ≤ 4194304 := by
  have := stp_bd h hi
  have := stp_bd h (i := i - 1) (by omega)
  unfold sec; omega
theorem giv_set {wr : Bool} {l : List Int} (h : Giv wr l) (i : Nat) (v : Int) (hv : permB wr v = true) : Giv wr (l.set i v) := by
  refine ⟨by simpa using h.n3, by simpa using h.n1000, fun j hj => ?_⟩
  have hj' : j < l.length := by simpa using hj
  by_cases hi : i < l.length
  · rw [nth_set l i v hi]
    split
    · exact hv
    · exact h.perm j hj'
  · rw [List.set_eq_of_length_le (by omega)]; exact h.perm j hj'
end Go.Proofs.YtmomoeagnkjbiaaGreat
/- Slices of ints that are read; rows of ints of the call's own; an append to such a row. -/
namespace Go.Proofs.YtmomoeagnkjbiaaGreat
open Go.RowKit

theorem lay_app (w : World) (A B : List (Obj ⊕ Ext)) : lay w (A ++ B) = lay (lay w B) A := by
  induction A with
  | nil => rfl
  | cons x A ih =>
    cases x with
    | inl o => exact congrArg (fun W => World.alloc W o) ih
    | inr d => exact congrArg (fun W => bw W d) ih
theorem lay_below {w : World} {A B : List (Obj ⊕ Ext)} : Below (lay w B).heap.size (lay w B) (lay w (A ++ B)) := by rw [lay_app]; exact lay_extends _ _
/-- The value is a slice that reads, in this world, as these ints. -/
def Sl (w : World) (v : Value) (l : List Int) : Prop :=
  ∃ a cap, v = .slice a l.length cap ∧ (l.length ≤ cap ∧ cap ≤ 9223372036854775807) ∧ (∀ i, i < l.length → (Lit.int .i64 (nth l i)).wf = true) ∧
    (l ≠ [] → ∃ b o, a = some ⟨b, o, none⟩ ∧ b < w.heap.size ∧ ∀ i, i < l.length → w.cell? ⟨b, o + i, none⟩ = some (.int .i64 (nth l i)))
theorem Sl.ext {w w' : World} {v : Value} {l : List Int} (h : Sl w v l) (hb : Below w.heap.size w w') : Sl w' v l := by
  obtain ⟨a, cap, h1, h2, h0, h3⟩ := h
  refine ⟨a, cap, h1, h2, h0, fun hl => ?_⟩
  obtain ⟨b, o, h4, h5, h6⟩ := h3 hl
  exact ⟨b, o, h4, Nat.lt_of_lt_of_le h5 hb.size, fun i hi => (hb.cell (p := ⟨b, o + i, none⟩) h5).trans (h6 i hi)⟩
theorem Sl.bw {w : World} {v : Value} {l : List Int} (h : Sl w v l) (d : Ext) : Sl (bw w d) v l := h.ext (bw_below w d)
theorem Sl.lay {w : World} {v : Value} {l : List Int} (h : Sl w v l) (L : List (Obj ⊕ Ext)) : Sl (lay w L) v l := h.ext (lay_extends w L)
theorem sl_on {w : World} {v : Value} {l : List Int} {A B : List (Obj ⊕ Ext)} (h : Sl (lay w B) v l) : Sl (lay w (A ++ B)) v l := h.ext lay_below
theorem Sl.nil (w : World) : Sl w (.slice none 0 0) [] := ⟨none, 0, rfl, by simp, fun i hi => absurd hi (Nat.not_lt_zero i), fun h => absurd rfl h⟩
/-- What a walk wants of a slice that is not empty. -/
theorem Sl.open {w : World} {v : Value} {l : List Int} (h : Sl w v l) (hl : 0 < l.length) :
    ∃ b o cap, v = .slice (some ⟨b, o, none⟩) l.length cap ∧ (l.length ≤ cap ∧ cap ≤ 9223372036854775807) ∧ (∀ i, i < l.length → (Lit.int .i64 (nth l i)).wf = true) ∧ b < w.heap.size ∧ ∀ i, i < l.length → w.cell? ⟨b, o + i, none⟩ = some (.int .i64 (nth l i)) := by
  obtain ⟨a, cap, rfl, h2, h0, h3⟩ := h
  obtain ⟨b, o, rfl, h5, h6⟩ := h3 (by intro e; rw [e] at hl; exact Nat.lt_irrefl 0 hl)
  exact ⟨b, o, cap, rfl, h2, h0, h5, h6⟩
theorem sl_of_fn {w : World} {a : Addr} {n cap : Nat} (hn : n ≤ cap ∧ cap ≤ 9223372036854775807) (hsp : a.spot = none) (hb : n ≠ 0 → a.block < w.heap.size) (f : Nat → Int)
    (h : ∀ i, i < n → w.cell? ⟨a.block, a.off + i, none⟩ = some (.int .i64 (f i)) ∧ (Lit.int .i64 (f i)).wf = true) :
    Sl w (.slice (some a) n cap) ((List.range n).map f) := by
  have e : ∀ i, i < n → nth ((List.range n).map f) i = f i := fun i hi => by simp [nth, List.getD, hi]
  refine ⟨some a, cap, by simp, by simpa using hn, fun i hi => ?_, fun hl => ⟨a.block, a.off, by cases a; simp_all, hb (by rintro rfl; exact hl rfl), fun i hi => ?_⟩⟩
  · have hi' : i < n := by simpa using hi
    rw [e i hi']; exact (h i hi').2
  · have hi' : i < n := by simpa using hi
    rw [e i hi']; exact (h i hi').1
theorem s_add_block1 (a : Addr) (n : Nat) : (a.add n).block = a.block := by
  unfold Addr.add; split <;> rfl
theorem s_add_none1 {a : Addr} (h : a.spot = none) (n : Nat) : a.add n = ⟨a.block, a.off + n, none⟩ := by
  unfold Addr.add
  split
  · rename_i h0
    have : n = 0 := by simpa using h0
    subst this
    cases a; simp_all
  · rfl
section
variable {H : Type} {enc : TypeId × Value → H} {P : Program}
theorem sl_of {w : World} {t e : TypeId} {fuel : Nat} {v : Value} {x : DataW H × List MemPlace} (ht : P.underlying t = some (.slice e)) (he : P.underlying e = some (.int .i64)) (hC : P.cellsOf e = 1)
    (hf : DataW.trod enc P w 0 (fun _ => true) true fuel t [v] = some x) : ∃ l, Sl w v l := by
  rcases Go.Deep.open_slice ht hf with ⟨hcs, _⟩ | ⟨a', len', cap', m, n, D, Pl, hcs, hb, hl, hm, hmm, hx, hel⟩
  · obtain rfl : v = .slice none 0 0 := by simpa using hcs
    exact ⟨[], Sl.nil w⟩
  · obtain rfl : v = .slice (some a') len' cap' := by simpa using hcs
    simp only [if_true] at hmm
    subst hmm
    obtain ⟨f, hF⟩ := Go.Deep.choose_lt (α := Int) (p := fun i y => w.cell? (a'.add i) = some (.int .i64 y) ∧ (Lit.int .i64 y).wf = true) (n := m) (fun i him => by
      obtain ⟨cs', hc', ht'⟩ := hel i him
      rw [hC] at hc'
      obtain ⟨_, hcl, hat⟩ := World.cells?_some hc'
      obtain ⟨y, rfl, _, hw⟩ := DataW.trod_int he ht'
      exact ⟨y, by simpa [Go.Deep.add_add] using hat 0 (by simp), hw⟩)
    have hspot : 0 < len' → a'.spot = none := fun hp => by
      have := (hF 0 (by omega)).1
      unfold World.cell? at this
      cases hs : a'.spot
      · rfl
      · simp [Addr.add, hs] at this
        try (split at this <;> simp at this)
    have hbl : 0 < len' → a'.block < w.heap.size := fun hp => by
      obtain ⟨cs', hc', _⟩ := hel 0 (by omega)
      rw [hC] at hc'
      have := World.cells?_block hc' (by omega)
      simpa [s_add_block1] using this
    have hM : maxLen = 9223372036854775807 := by decide
    by_cases hz : len' = 0
    · subst hz
      exact ⟨[], some a', _, rfl, ⟨hl, by omega⟩, fun i hi => absurd hi (Nat.not_lt_zero i), fun hne => absurd rfl hne⟩
    · refine ⟨_, sl_of_fn ⟨hl, by omega⟩ (hspot (by omega)) (fun _ => hbl (by omega)) f fun i hi' => ?_⟩
      have g := hF i (by omega)
      rw [s_add_none1 (hspot (by omega))] at g
      exact g
theorem sl_open {w : World} {r : Reach} {b0 : Nat} {t e : TypeId} {v : Value} {d : DataW H} {ps : List MemPlace} (ht : P.underlying t = some (.slice e)) (he : P.underlying e = some (.int .i64)) (hC : P.cellsOf e = 1)
    (hv : Value.okWide P w r b0 t v) (h : DataW.Trod enc P w 0 (fun _ => true) true t v d ps) : ∃ l, Sl w v l := by
  obtain ⟨a, len, cap, rfl⟩ := Go.WideShapes.okWide_slice ht hv
  obtain ⟨fuel, hf⟩ := h
  exact sl_of ht he hC (by simpa [Value.cells] using hf)
end

/-- The value is a row of the call's own (its blocks behind base) that holds these ints. -/
def Ow (w : World) (base : Nat) (v : Value) (l : List Int) : Prop :=
  w.ownsRow base 3 1 v l.length (l.map (Value.int .i64)) ∧ ∀ i, i < l.length → (Lit.int .i64 (nth l i)).wf = true
theorem Ow.nil (w : World) (base : Nat) : Ow w base (.slice none 0 0) [] := ⟨World.ownsRow_nil w base _ _, fun i hi => absurd hi (Nat.not_lt_zero i)⟩
theorem Ow.form {w : World} {base : Nat} {v : Value} {l : List Int} (h : Ow w base v l) : ∃ a cap, v = .slice a l.length cap := by
  rcases h.1.2 with ⟨rfl, hz⟩ | ⟨g, cap, cur, rfl, _⟩
  · exact ⟨none, 0, by rw [hz]⟩
  · exact ⟨_, cap, rfl⟩
theorem Ow.form1 {w : World} {base : Nat} {v : Value} {l : List Int} (h : Ow w base v l) (hl : 0 < l.length) : ∃ g cap, v = .slice (some ⟨g, 0, none⟩) l.length cap ∧ base ≤ g ∧ g < w.heap.size ∧ l.length ≤ cap ∧ cap ≤ 9223372036854775807 := by
  rcases h.1.2 with ⟨rfl, hz⟩ | ⟨g, cap, cur, rfl, h1, h2, h3, h4, _⟩
  · omega
  · have hM : maxLen = 9223372036854775807 := by decide
    exact ⟨g, cap, rfl, h1, (Array.getElem?_eq_some_iff.1 h2).1, h3, by omega⟩
theorem nth_getElem? {l : List Int} {i : Nat} (h : i < l.length) : l[i]? = some (nth l i) := by simp [nth, List.getD, h]
theorem Ow.cell {w : World} {base g cap n : Nat} {l : List Int} (h : Ow w base (.slice (some ⟨g, 0, none⟩) n cap) l) {i : Nat} (hi : i < l.length) : w.cell? ⟨g, i, none⟩ = some (.int .i64 (nth l i)) := by
  have h1 := h.1
  have hn : n = l.length := by
    obtain ⟨a, c, e⟩ := h.form
    cases e; rfl
  subst hn
  rw [h1.cellAt i (by omega), List.getElem?_map, nth_getElem? hi]
  rfl
theorem Ow.froz {w : World} {base g cap n : Nat} {l : List Int} (h : Ow w base (.slice (some ⟨g, 0, none⟩) n cap) l) (j : Nat) : w.frozen? ⟨g, j, none⟩ = false := by
  have hn : n = l.length := by
    obtain ⟨a, c, e⟩ := h.form
    cases e; rfl
  subst hn
  exact h.1.frozenAt j
theorem Ow.sl {w : World} {base : Nat} {v : Value} {l : List Int} (h : Ow w base v l) : Sl w v l := by
  by_cases hl : l = []
  · subst hl
    rcases h.1.2 with ⟨rfl, hz⟩ | ⟨g, cap, cur, rfl, _, _, h3, h4, _⟩
    · exact Sl.nil w
    · have hM : maxLen = 9223372036854775807 := by decide
      exact ⟨_, cap, rfl, ⟨h3, by omega⟩, h.2, fun hne => absurd rfl hne⟩
  · have hl' : 0 < l.length := List.length_pos_iff.2 hl
    obtain ⟨g, cap, rfl, h1, h2, h3⟩ := h.form1 hl'
    exact ⟨_, cap, rfl, h3, h.2, fun _ => ⟨g, 0, rfl, h2, fun i hi => by rw [Nat.zero_add]; exact h.cell hi⟩⟩
theorem Ow.ext {w w' : World} {base : Nat} {v : Value} {l : List Int} (h : Ow w base v l) (hb : Below w.heap.size w w') : Ow w' base v l := by
  refine ⟨⟨h.1.1, h.1.2.imp id ?_⟩, h.2⟩
  rintro ⟨g, cap, cur, e, h1, h2, h3⟩
  exact ⟨g, cap, cur, e, h1, (hb.block g (Array.getElem?_eq_some_iff.1 h2).1).trans h2, h3⟩
theorem Ow.lay {w : World} {base : Nat} {v : Value} {l : List Int} (h : Ow w base v l) (L : List (Obj ⊕ Ext)) : Ow (lay w L) base v l := h.ext (lay_extends w L)
theorem Ow.bw {w : World} {base : Nat} {v : Value} {l : List Int} (h : Ow w base v l) (d : Ext) : Ow (bw w d) base v l := h.ext (bw_below w d)
theorem Ow.le {w : World} {base base' : Nat} {v : Value} {l : List Int} (h : Ow w base v l) (hb : base' ≤ base) : Ow w base' v l := ⟨⟨h.1.1, h.1.2.imp id fun ⟨g, cap, cur, e, h1, h2⟩ => ⟨g, cap, cur, e, Nat.le_trans hb h1, h2⟩⟩, h.2⟩
theorem ow_on {w : World} {base : Nat} {v : Value} {l : List Int} {A B : List (Obj ⊕ Ext)} (h : Ow (lay w B) base v l) : Ow (lay w (A ++ B)) base v l := h.ext lay_below
/-- An append to such a row of an element that was just laid down. -/
theorem ow_append {l : List Int} {c : Int} (hl : ∀ i, i < l.length → (Lit.int .i64 (nth l i)).wf = true) (hc : (Lit.int .i64 c).wf = true) : ∀ i, i < (l ++ [c]).length → (Lit.int .i64 (nth (l ++ [c]) i)).wf = true := by
  intro i hi
  by_cases h : i < l.length
  · have : nth (l ++ [c]) i = nth l i := by unfold nth; simp [List.getD, List.getElem?_append, h]
    rw [this]; exact hl i h
  · have h2 : i = l.length := by simp at hi; omega
    have : nth (l ++ [c]) i = c := by unfold nth; simp [List.getD, h2]
    rw [this]; exact hc
theorem info_intS : (Tryz.prog.info? 3).map (fun i => (i.zero, i.size, i.bytes)) = some (some (.int .i64 0), 1, 8) := by kernel_rfl
theorem push_int {ops : Array Oper} {rest : List Oper} {o : Oper} {a : Act} {Q : Exit → Act → World → Prop} (hgd : o.guard = none) (s x : Operand)
    (ho : o.op = .call { callee := .builtin .append, args := #[s, x], argTypes := #[41, 41] })
    (W0 : World) (wb : World) (c : Int) (te : TypeId) (xb : Nat) (v : Value) (l : List Int) (hw : Below W0.heap.size W0 wb) (hown : Ow wb W0.heap.size v l)
    (hcell : wb.heap[xb]? = some (.cells #[.int .i64 c] te (0, 0))) (hs : a.eval s = v) (hx : a.eval x = .slice (some ⟨xb, 0, none⟩) 1 1)
    (hn : l.length ≤ 1000000000) (hc : (Lit.int .i64 c).wf = true)
    (h : ∀ v' d, Ow (Go.Proofs.YtmomoeagnkjbiaaGreat.bw W0 d) W0.heap.size v' (l ++ [c]) → wpList Tryz.prog ops Q rest (a.put o.dst v') (Go.Proofs.YtmomoeagnkjbiaaGreat.bw W0 d)) :
    wpList Tryz.prog ops Q (o :: rest) a wb := by
  obtain ⟨i, hi, hz0, hz1, hz2⟩ := info_parts info_intS
  have hM : maxLen = 9223372036854775807 := by decide
  refine wpList_append_lies wb hgd s x 41 ho W0.heap.size 3 i (.int .i64 0) 1 8 Tryz.underlying41 hi hz0 hz1 hz2 rfl (by decide) v l.length (l.map (Value.int .i64)) hs hown.1 ⟨xb, 0, none⟩ 1 1 [.int .i64 c] hx rfl (World.news_of_block (cs := #[.int .i64 c]) hcell) (by simp [Value.oneCell']) (by decide) (by omega) (by omega) hw.size wb.heap.size rfl ?_
  intro g cap w' hown' hg hat _
  obtain ⟨d, hd⟩ := bw_of (w := W0) (w' := w') (hw.grown hg hw.size (fun k hk => (hown.1.lt k hk).1))
  subst hd
  exact h _ d ⟨by simpa using hown', ow_append hown.2 hc⟩
/-- A store into such a row. -/
theorem ow_store {w : World} {base g cap n : Nat} {l : List Int} (h : Ow w base (.slice (some ⟨g, 0, none⟩) n cap) l) (j : Nat) (x : Int) (hx : (Lit.int .i64 x).wf = true) :
    Ow (w.setCell ⟨g, j, none⟩ (.int .i64 x)) base (.slice (some ⟨g, 0, none⟩) n cap) (l.set j x) := by
  have hn : n = l.length := by
    obtain ⟨a, c, e⟩ := h.form
    cases e; rfl
  subst hn
  refine ⟨by have := (h.1.stored j (.int .i64 x)).1; rw [List.length_set, List.map_set]; exact this, fun i hi => ?_⟩
  have hi' : i < l.length := by simpa using hi
  by_cases hj : j < l.length
  · rw [nth_set l j x hj]
    split
    · exact hx
    · exact h.2 i hi'
  · rw [List.set_eq_of_length_le (by omega)]; exact h.2 i hi'
/-- A row behind a block is the same whatever the block holds. -/
theorem ow_swap {w : World} {T : List (Obj ⊕ Ext)} {o : Obj} (o' : Obj) {e : Ext} {base : Nat} {v : Value} {l : List Int} (hb : (lay w T).heap.size < base)
    (h : Ow (lay w (.inr e :: .inl o :: T)) base v l) : Ow (lay w (.inr e :: .inl o' :: T)) base v l := by
  refine ⟨⟨h.1.1, h.1.2.imp id fun ⟨g, cap, cur, h1, h2, h3, h4⟩ => ⟨g, cap, cur, h1, h2, ?_, h4⟩⟩, h.2⟩
  rw [← h3]
  show ((Go.Proofs.YtmomoeagnkjbiaaGreat.lay w T).heap.push o' ++ e.blocks)[g]? = ((Go.Proofs.YtmomoeagnkjbiaaGreat.lay w T).heap.push o ++ e.blocks)[g]?
  rw [Array.getElem?_append, Array.getElem?_append, Array.size_push, Array.size_push]
  rw [if_neg (by omega), if_neg (by omega)]
theorem lay_lt (w : World) (o : Obj) (T : List (Obj ⊕ Ext)) : (Go.Proofs.YtmomoeagnkjbiaaGreat.lay w T).heap.size < (Go.Proofs.YtmomoeagnkjbiaaGreat.lay w (.inl o :: T)).heap.size := by
  show _ < (World.alloc _ o).heap.size
  rw [World.size_alloc]; exact Nat.lt_succ_self _
/-- A store behind a world's blocks leaves a world that extends it. -/
theorem bw_store {w : World} {d : Ext} {g i : Nat} {v : Value} (hg : w.heap.size ≤ g) : ∃ d', (Go.Proofs.YtmomoeagnkjbiaaGreat.bw w d).setCell ⟨g, i, none⟩ v = Go.Proofs.YtmomoeagnkjbiaaGreat.bw w d' := by
  refine bw_of ?_
  have h1 := bw_below w d
  refine ⟨h1.1, h1.2, h1.3, ?_, fun k hk => ?_⟩
  · rw [World.size_setCell]; exact h1.size
  · rw [heap_setCell_other _ ⟨g, i, none⟩ k v (by intro e; have : k = g := by simpa using e
                                                  omega)]
    exact h1.block k hk
end Go.Proofs.YtmomoeagnkjbiaaGreat
/- An append of a whole slice to a row of the call's own; slices cut (as in XPut, for a seat without audit). -/
namespace Go.Proofs.YtmomoeagnkjbiaaGreat
open Go.RowKit

theorem wf_append {l m : List Int} (hl : ∀ i, i < l.length → (Lit.int .i64 (nth l i)).wf = true) (hm : ∀ i, i < m.length → (Lit.int .i64 (nth m i)).wf = true) : ∀ i, i < (l ++ m).length → (Lit.int .i64 (nth (l ++ m) i)).wf = true := by
  intro i hi
  by_cases h : i < l.length
  · have : nth (l ++ m) i = nth l i := by unfold nth; simp [List.getD, List.getElem?_append, h]
    rw [this]; exact hl i h
  · have h2 : i - l.length < m.length := by simp at hi; omega
    have : nth (l ++ m) i = nth m (i - l.length) := by unfold nth; simp [List.getD, List.getElem?_append, h]
    rw [this]; exact hm _ h2
theorem map_get {l : List Int} {j : Nat} {u : Value} (h : (l.map (Value.int .i64))[j]? = some u) : j < l.length ∧ u = .int .i64 (nth l j) := by
  rw [List.getElem?_map] at h
  have hj : j < l.length := by
    rcases Nat.lt_or_ge j l.length with h1 | h1
    · exact h1
    · rw [List.getElem?_eq_none h1] at h; cases h
  rw [nth_getElem? hj] at h
  exact ⟨hj, by simpa using h.symm⟩
theorem push_sl {ops : Array Oper} {rest : List Oper} {o : Oper} {a : Act} {Q : Exit → Act → World → Prop} (hgd : o.guard = none) (s x : Operand)
    (ho : o.op = .call { callee := .builtin .append, args := #[s, x], argTypes := #[41, 41] })
    (W0 : World) (wb : World) (v1 : Value) (l1 : List Int) (A : Option Addr) (n c : Nat) (l2 : List Int) (hw : Below W0.heap.size W0 wb) (hown : Ow wb W0.heap.size v1 l1)
    (hsrc : Sl wb (.slice A n c) l2) (hA : A = none → c = 0) (hs : a.eval s = v1) (hx : a.eval x = .slice A n c) (hn : l1.length + l2.length ≤ 1000000000)
    (h : ∀ v' d, Ow (Go.Proofs.YtmomoeagnkjbiaaGreat.bw W0 d) W0.heap.size v' (l1 ++ l2) → wpList Tryz.prog ops Q rest (a.put o.dst v') (Go.Proofs.YtmomoeagnkjbiaaGreat.bw W0 d)) :
    wpList Tryz.prog ops Q (o :: rest) a wb := by
  obtain ⟨i, hi, hz0, hz1, hz2⟩ := info_parts info_intS
  have hM : maxLen = 9223372036854775807 := by decide
  obtain ⟨a', cap', he, hcc, hwf, hcell⟩ := hsrc
  simp only [Value.slice.injEq] at he
  obtain ⟨rfl, rfl, rfl⟩ := he
  cases A with
  | none =>
    obtain rfl := hA rfl
    have hl2 : l2 = [] := by
      rcases List.eq_nil_or_concat l2 with h | ⟨_, _, h⟩
      · exact h
      · have : l2 ≠ [] := by rw [h]; simp
        obtain ⟨_, _, h, _⟩ := hcell this
        cases h
    subst hl2
    obtain ⟨d, rfl⟩ := bw_of hw
    refine wpList_append_own_none hgd s x 41 ho W0.heap.size 3 i 1 Tryz.underlying41 hi v1 l1.length (l1.map (Value.int .i64)) hs hown.1 hx ?_
    exact h v1 d (by rw [List.append_nil]; exact hown)
  | some ad =>
    refine wpList_append_own wb hgd s x 41 ho W0.heap.size 3 i (.int .i64 0) 1 8 Tryz.underlying41 hi hz0 hz1 hz2 rfl (by decide) v1 l1.length (l1.map (Value.int .i64)) hs hown.1 ad l2.length c (l2.map (Value.int .i64)) hx (by simp) ?_ ?_ (by omega) (by omega) hw.size ?_
    · intro j u hu
      obtain ⟨hj, rfl⟩ := map_get hu
      obtain ⟨b, o', e, _, hr⟩ := hcell (by intro e; rw [e] at hj; exact absurd hj (Nat.not_lt_zero _))
      cases e
      rw [s_add_none1 rfl]
      exact hr j hj
    · intro u hu
      obtain ⟨y, _, rfl⟩ := List.mem_map.1 hu
      rfl
    · intro v' w' hown' hg _
      obtain ⟨d, hd⟩ := bw_of (w := W0) (w' := w') (hw.grown hg hw.size (fun k hk => (hown.1.lt k hk).1))
      subst hd
      exact h v' d ⟨by rw [List.length_append, List.map_append]; exact hown', wf_append hown.2 hwf⟩
/-- An empty literal. -/
theorem ow_empty {w : World} {L : List (Obj ⊕ Ext)} : Ow (lay w (.inl (.cells #[] 3 (0, 0)) :: L)) (lay w L).heap.size (.slice (some ⟨posn w (shp L), 0, none⟩) 0 0) [] := by
  rw [← lay_size w L]
  exact ⟨World.ownsRow_lit (lay w L) #[] 0 (Nat.le_refl _) (by decide) rfl, fun i hi => absurd hi (Nat.not_lt_zero i)⟩
/-- A slice cut out of one. -/
theorem nth_cut {l : List Int} {f n i : Nat} (h : i < n) : nth ((l.drop f).take n) i = nth l (f + i) := by
  unfold nth; simp [List.getD, h]
theorem sl_cut {w : World} {b o n cap f k c : Nat} {l : List Int} (h : Sl w (.slice (some ⟨b, o, none⟩) n cap) l) (hf : f + k ≤ l.length) (hc : k ≤ c ∧ c ≤ 9223372036854775807) : Sl w (.slice (some ⟨b, o + f, none⟩) k c) ((l.drop f).take k) := by
  have hl : ((l.drop f).take k).length = k := by rw [List.length_take, List.length_drop]; omega
  obtain ⟨a', cap', he, hcc, hwf, hcell⟩ := h
  simp only [Value.slice.injEq] at he
  obtain ⟨he, rfl, rfl⟩ := he
  refine ⟨_, c, by rw [hl], by rw [hl]; exact hc, fun i hi => ?_, fun hne => ⟨b, o + f, rfl, ?_⟩⟩
  · rw [hl] at hi
    rw [nth_cut hi]; exact hwf _ (by omega)
  · have hk : 0 < k := by rw [← hl]; exact List.length_pos_iff.2 hne
    obtain ⟨b', o', e, hb, hr⟩ := hcell (by intro e; rw [e] at hf; simp at hf; omega)
    rw [← he] at e
    cases e
    refine ⟨hb, fun i hi => ?_⟩
    rw [hl] at hi
    rw [nth_cut hi, Nat.add_assoc]
    exact hr _ (by omega)
theorem sl_none {w : World} {a : Option Addr} {c : Nat} (hc : c ≤ 9223372036854775807) : Sl w (.slice a 0 c) [] := ⟨a, c, rfl, ⟨Nat.zero_le _, hc⟩, fun i hi => absurd hi (Nat.not_lt_zero i), fun h => absurd rfl h⟩
/-- The call returns a row of its own that holds these ints, in a world that extends the one before. -/
def RwO (w : World) (l : List Int) (e : Ending) (w' : World) : Prop := ∃ v d, e = .returned v ∧ w' = bw w d ∧ Ow (bw w d) w.heap.size v l
end Go.Proofs.YtmomoeagnkjbiaaGreat
