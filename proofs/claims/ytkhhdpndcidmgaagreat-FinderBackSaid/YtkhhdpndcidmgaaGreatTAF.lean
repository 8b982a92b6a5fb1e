/- Contracts and plain laws, several texts in one: Mix -/
import Derived.Test.YtkhhdpndcidmgaaGreatTAE
/- Regions that draw their order, in general: quiet operations in any order beside operations that change the world. A schedule says of each operation, in the text's order: 0: quiet (its value is the same in all worlds of a class, and it only adds to the world); 1: it alone may come now; 2: it and the next one may come now, in either order. No program in sight. -/
namespace Go.Proofs.YtkhhdpndcidmgaaGreat
open Go.RowKit

def mUpon {κ : Type} (P : Program) (Cl : κ → World) (k : κ) (v : Value) : Result Next → Prop
  | .ok (.value u) w' => w' = Cl k ∧ u = v
  | .ok .skip w' => w' = Cl k ∧ v = undef
  | .ok (.enter f args) w' => w' = Cl k ∧ Calls P f args (Cl k) (fun e w'' => e = .returned v ∧ ∃ d, w'' = bw (Cl k) d)
  | _ => False
def mOp {κ : Type} (P : Program) (Cl : κ → World) (o : Oper) (a : Act) (next : Act → Prop) : Prop := ∃ v, (∀ k, mUpon P Cl k v ((execOp a.eval o).run P (Cl k))) ∧ next (a.put o.dst v)
def sUpon (P : Program) (K : Act → World → Prop) (a : Act) (dst : Option Tmp) : Result Next → Prop
  | .ok (.value u) w' => K (a.put dst u) w'
  | .ok .skip w' => K (a.put dst undef) w'
  | .ok (.enter f args) w' => Calls P f args w' (fun e w'' => ∃ v, e = .returned v ∧ K (a.put dst v) w'')
  | _ => False
def sOp (P : Program) (o : Oper) (a : Act) (K : Act → World → Prop) (w : World) : Prop := sUpon P K a o.dst ((execOp a.eval o).run P w)
attribute [go_sem] mUpon mOp sUpon sOp

section
variable {P : Program} {ops : Array Oper} {md : Region.Mode} {κ : Type} {Cl : κ → World}

def oneOp (P : Program) (ops : Array Oper) (i : Nat) (K : Act → World → Prop) (a : Act) (w : World) : Prop :=
  match ops[i]? with
  | none => K a w
  | some o => if Region.wanted o (yielded ops a.tmps) then sOp P o a K w else K (a.put o.dst undef) w
theorem oneOp_some {i : Nat} {o : Oper} {K : Act → World → Prop} {a : Act} {w : World} (hi : ops[i]? = some o) :
    oneOp P ops i K a w = if Region.wanted o (yielded ops a.tmps) then sOp P o a K w else K (a.put o.dst undef) w := by unfold oneOp; rw [hi]
theorem sOp_mono {o : Oper} {K K' : Act → World → Prop} {a : Act} {w : World} (h : ∀ a w, K a w → K' a w) (hh : sOp P o a K w) : sOp P o a K' w := by
  unfold sOp at *
  generalize (execOp a.eval o).run P w = r at *
  cases r with
  | ok nx w' =>
    cases nx <;> simp only [sUpon] at hh ⊢
    case value x => exact h _ _ hh
    case skip => exact h _ _ hh
    case enter f args => exact hh.mono fun e w'' ⟨v, he, hk⟩ => ⟨v, he, h _ _ hk⟩
  | halt x w' => simp only [sUpon] at hh
theorem oneOp_mono {i : Nat} {K K' : Act → World → Prop} {a : Act} {w : World} (h : ∀ a w, K a w → K' a w) (hh : oneOp P ops i K a w) : oneOp P ops i K' a w := by
  unfold oneOp at *
  split
  · rename_i ho; simp only [ho] at hh; exact h _ _ hh
  · rename_i o ho
    simp only [ho] at hh
    split
    · rename_i hw; rw [if_pos hw] at hh; exact sOp_mono h hh
    · rename_i hw; rw [if_neg hw] at hh; exact h _ _ hh
theorem wp_of_sOp {o : Oper} {K : Act → World → Prop} {Q' : Exit → Act → World → Prop} {a : Act} {w : World} (hh : sOp P o a K w) : o.wp P a w K Q' := by
  unfold sOp at hh
  unfold Oper.wp
  generalize (execOp a.eval o).run P w = r at *
  cases r with
  | ok nx w' =>
    cases nx <;> simp only [sUpon] at hh <;> simp only [Oper.upon]
    case value x => exact hh
    case skip => exact hh
    case enter f args => exact hh.mono fun e w'' ⟨v, he, hk⟩ => by subst he; exact hk
  | halt x w' => simp only [sUpon] at hh

def wpC (P : Program) (md : Region.Mode) (ops : Array Oper) (Cl : κ → World) (Q : Act → World → Prop) : Nat → Array Bool → Act → World → Prop
  | 0, listed, a, w => Region.ready md ops listed = [] ∧ ∀ d, Q a (bw w d)
  | f + 1, listed, a, w => Region.ready md ops listed ≠ [] ∧ ∀ i ∈ Region.ready md ops listed, ∀ d, oneOp P ops i (fun a' w' => (∃ k, w' = Cl k) ∧ wpC P md ops Cl Q f (listed.setIfInBounds i true) a' w') a (bw w d)
def noExt (w : World) : Ext := ⟨#[], w.drawn⟩
theorem bw_noExt (w : World) : bw w (noExt w) = w := by
  show ({ w with heap := w.heap ++ #[], drawn := w.drawn } : World) = w
  rw [Array.append_empty]
theorem wpC_ext {Q : Act → World → Prop} : ∀ {f : Nat} {listed : Array Bool} {a : Act} {w : World} (d : Ext), wpC P md ops Cl Q f listed a w → wpC P md ops Cl Q f listed a (bw w d)
  | 0, _, _, w, d, h => ⟨h.1, fun e => by rw [bw_bw]; exact h.2 _⟩
  | _ + 1, _, _, w, d, h => ⟨h.1, fun i hi e => by rw [bw_bw]; exact h.2 i hi _⟩
theorem wpC_sound {Q' : Exit → Act → World → Prop} : ∀ (f : Nat) (listed : Array Bool) (a : Act) (w : World), wpC P md ops Cl (fun a w => Q' .normal a w) f listed a w → wpAny P md ops Q' f listed a w
  | 0, listed, a, w, h => ⟨h.1, by have := h.2 (noExt w); rwa [bw_noExt] at this⟩
  | f + 1, listed, a, w, h => by
    refine ⟨fun h0 => absurd h0 h.1, fun i hi => ?_⟩
    have h1 := h.2 i hi (noExt w)
    rw [bw_noExt] at h1
    unfold oneOp at h1
    unfold wpOp
    split
    · rename_i ho; simp only [ho] at h1; exact wpC_sound f _ _ _ h1.2
    · rename_i o ho
      simp only [ho] at h1
      split
      · rename_i hw; rw [if_pos hw] at h1
        exact Or.inl (wp_of_sOp (sOp_mono (fun a w hk => wpC_sound f _ a w hk.2) h1))
      · rename_i hw; rw [if_neg hw] at h1; exact wpC_sound f _ _ _ h1.2

def YieldsM (P : Program) (ops : Array Oper) (Cl : κ → World) (o : Oper) (v : Value) (a : Act) : Prop :=
  (Region.wanted o (yielded ops a.tmps) = true ∧ ∀ k, mUpon P Cl k v ((execOp a.eval o).run P (Cl k))) ∨ (Region.wanted o (yielded ops a.tmps) = false ∧ v = undef)
theorem YieldsM.oneOp {i : Nat} {o : Oper} {v : Value} {a : Act} {w : World} (hi : ops[i]? = some o) (hy : YieldsM P ops Cl o v a) (hw : ∃ k, w = Cl k) {K : Act → World → Prop}
    (h0 : K (a.put o.dst v) w) (h : ∀ d, K (a.put o.dst v) (bw w d)) : Go.Proofs.YtkhhdpndcidmgaaGreat.oneOp P ops i K a w := by
  rw [oneOp_some hi]
  rcases hy with ⟨hw1, hv⟩ | ⟨hw1, rfl⟩
  · rw [if_pos hw1]
    obtain ⟨k, rfl⟩ := hw
    have h3 := hv k
    unfold sOp
    generalize (execOp a.eval o).run P (Cl k) = r at *
    cases r with
    | ok nx w' =>
      cases nx <;> simp only [mUpon] at h3 <;> simp only [sUpon]
      case value x => obtain ⟨e1, e2⟩ := h3; rw [e1, e2]; exact h0
      case skip => obtain ⟨e1, e2⟩ := h3; rw [e1, ← e2]; exact h0
      case enter f args =>
        obtain ⟨e1, hc⟩ := h3
        rw [e1]
        exact hc.mono fun e w'' ⟨he, d, hd⟩ => ⟨v, he, by rw [hd]; exact h d⟩
    | halt x w' => simp only [mUpon] at h3
  · rw [if_neg (by rw [hw1]; exact Bool.false_ne_true)]; exact h0
theorem YieldsM.keep {oi oj : Oper} {v : Value} {a : Act} (hsi : ∀ cs b, oi.op ≠ .select cs b) (h3 : ∀ d, oj.dst = some d → d ∉ oi.looksAt ops) (hy : YieldsM P ops Cl oi v a) (u : Value) : YieldsM P ops Cl oi v (a.put oj.dst u) := by
  unfold YieldsM at *
  rw [execOp_put oi hsi a oj.dst u h3, wanted_put oi a oj.dst u h3]
  exact hy
theorem oneOp_put {j : Nat} {oi oj : Oper} {v : Value} {w : World} (hj : ops[j]? = some oj) (hap : oi.apart ops oj = true)
    (hsi : ∀ cs b, oi.op ≠ .select cs b) (hsj : ∀ cs b, oj.op ≠ .select cs b) {K : Act → World → Prop} {a : Act}
    (hy : YieldsM P ops Cl oi v a) (h : oneOp P ops j K (a.put oi.dst v) w) :
    oneOp P ops j (fun a' w' => YieldsM P ops Cl oi v a' ∧ K (a'.put oi.dst v) w') a w := by
  obtain ⟨h1, h2, h3⟩ := Oper.apart_spec hap
  rw [oneOp_some hj, wanted_put oj a oi.dst v h1] at h
  rw [oneOp_some hj]
  split
  · rename_i hw
    rw [if_pos hw] at h
    unfold sOp at *
    rw [execOp_put oj hsj a oi.dst v h1] at h
    generalize (execOp a.eval oj).run P w = r at *
    cases r with
    | ok nx w' =>
      cases nx <;> simp only [sUpon] at h ⊢
      case value x => exact ⟨hy.keep hsi h3 _, by rw [← Act.put_comm a v x h2]; exact h⟩
      case skip => exact ⟨hy.keep hsi h3 _, by rw [← Act.put_comm a v undef h2]; exact h⟩
      case enter f args => exact h.mono fun e w'' ⟨u, he, hk⟩ => ⟨u, he, hy.keep hsi h3 _, by rw [← Act.put_comm a v u h2]; exact hk⟩
    | halt x w' => simp only [sUpon] at h
  · rename_i hw
    rw [if_neg hw] at h
    exact ⟨hy.keep hsi h3 _, by rw [← Act.put_comm a v undef h2]; exact h⟩

theorem wpC_first {i : Nat} {oi : Oper} {v : Value} {Q : Act → World → Prop} (hCl : ∀ k d, ∃ k', bw (Cl k) d = Cl k') (hi : ops[i]? = some oi) (hsel : ∀ (j : Nat) (o : Oper) cs b, ops[j]? = some o → o.op ≠ .select cs b) :
    ∀ (f : Nat) (listed : Array Bool) (a : Act) (w : World), (∃ k, w = Cl k) →
      (∀ j oj, ops[j]? = some oj → j ≠ i → listed.getD j true = false → (∀ e ∈ oj.after, Region.binds md e = true → e.on ≠ i) → oi.apart ops oj = true) →
      i ∈ Region.ready md ops listed → YieldsM P ops Cl oi v a →
      wpC P md ops Cl Q f (listed.setIfInBounds i true) (a.put oi.dst v) w → wpC P md ops Cl Q (f + 1) listed a w := by
  have cl : ∀ w d, (∃ k, w = Cl k) → ∃ k, bw w d = Cl k := fun w d ⟨k, hk⟩ => by rw [hk]; exact hCl k d
  intro f
  induction f with
  | zero =>
    intro listed a w hw _ hr hy H
    refine ⟨List.ne_nil_of_mem hr, fun j hj d => ?_⟩
    by_cases hji : j = i
    · subst hji
      exact hy.oneOp hi (cl w d hw) ⟨cl w d hw, wpC_ext d H⟩ (fun e => ⟨cl _ e (cl w d hw), wpC_ext e (wpC_ext d H)⟩)
    · have := ready_mono hj hji
      rw [H.1] at this; cases this
  | succ f ih =>
    intro listed a w hw hfree hr hy H
    have hun := (mem_ready.1 hr).1
    refine ⟨List.ne_nil_of_mem hr, fun j hj d => ?_⟩
    by_cases hji : j = i
    · subst hji
      exact hy.oneOp hi (cl w d hw) ⟨cl w d hw, wpC_ext d H⟩ (fun e => ⟨cl _ e (cl w d hw), wpC_ext e (wpC_ext d H)⟩)
    · have h1 := H.2 j (ready_mono hj hji) d
      obtain ⟨hjun, oj, hoj, hall⟩ := mem_ready.1 hj
      have hnot : ∀ e ∈ oj.after, Region.binds md e = true → e.on ≠ i := fun e he hb heq => by
        have h2 := hall e he hb
        have h3 : listed.getD i false = false := by
          rcases Nat.lt_or_ge i listed.size with h' | h'
          · simp [h'] at hun ⊢; exact hun
          · simp [Array.getElem?_eq_none h'] at hun
        rw [heq, h3] at h2
        cases h2
      have h2 := oneOp_put hoj (hfree j oj hoj hji hjun hnot) (fun cs b => hsel i oi cs b hi) (fun cs b => hsel j oj cs b hoj) hy h1
      have hfree' : ∀ k ok, ops[k]? = some ok → k ≠ i → (listed.setIfInBounds j true).getD k true = false →
          (∀ e ∈ ok.after, Region.binds md e = true → e.on ≠ i) → oi.apart ops ok = true := fun k ok hk hki hu hno => by
        refine hfree k ok hk hki ?_ hno
        by_cases hjk : j = k
        · subst hjk; exact hjun
        · rw [getD_set_ne true hjk] at hu; exact hu
      refine oneOp_mono (fun a' w' h3 => ⟨h3.2.1, ih (listed.setIfInBounds j true) a' w' h3.2.1 hfree' (ready_mono hr (Ne.symm hji)) h3.1 ?_⟩) h2
      rw [Array.setIfInBounds_comm _ _ hji]
      exact h3.2.2

def wpM (P : Program) (ops : Array Oper) (Cl : κ → World) (Q : Act → World → Prop) : List Nat → List Oper → Act → World → Prop
  | 0 :: s, o :: l, a, w => if Region.wanted o (yielded ops a.tmps) then mOp P Cl o a (fun a' => wpM P ops Cl Q s l a' w) else wpM P ops Cl Q s l (a.put o.dst undef) w
  | 1 :: s, o :: l, a, w => ∀ d, if Region.wanted o (yielded ops a.tmps) then sOp P o a (fun a' w' => (∃ k, w' = Cl k) ∧ wpM P ops Cl Q s l a' w') (bw w d) else (∃ k, bw w d = Cl k) ∧ wpM P ops Cl Q s l (a.put o.dst undef) (bw w d)
  | 2 :: s, o1 :: o2 :: l, a, w =>
    (∀ d, sOp P o1 a (fun a' w' => (∃ k, w' = Cl k) ∧ ∀ d', sOp P o2 a' (fun a'' w'' => (∃ k, w'' = Cl k) ∧ wpM P ops Cl Q s l a'' w'') (bw w' d')) (bw w d)) ∧
    (∀ d, sOp P o2 a (fun a' w' => (∃ k, w' = Cl k) ∧ ∀ d', sOp P o1 a' (fun a'' w'' => (∃ k, w'' = Cl k) ∧ wpM P ops Cl Q s l a'' w'') (bw w' d')) (bw w d))
  | _, [], a, w => ∀ d, Q a (bw w d)
  | _, _, _, _ => False
def lexM (md : Region.Mode) (ops : Array Oper) : List Nat → Nat → Array Bool → Bool
  | [], k, listed => decide (k = ops.size) && (Region.ready md ops listed).isEmpty
  | 0 :: s, k, listed => decide (k < ops.size) && (Region.ready md ops listed).contains k && Region.free md ops listed k && lexM md ops s (k + 1) (listed.setIfInBounds k true)
  | 1 :: s, k, listed => decide (k < ops.size) && decide (Region.ready md ops listed = [k]) && lexM md ops s (k + 1) (listed.setIfInBounds k true)
  | 2 :: s, k, listed => decide (k + 1 < ops.size) && decide (Region.ready md ops listed = [k, k + 1]) && decide (Region.ready md ops (listed.setIfInBounds k true) = [k + 1]) && decide (Region.ready md ops (listed.setIfInBounds (k + 1) true) = [k]) &&
    (match ops[k]?, ops[k + 1]? with | some o1, some o2 => o1.guard.isNone && o2.guard.isNone | _, _ => false) && lexM md ops s (k + 2) ((listed.setIfInBounds k true).setIfInBounds (k + 1) true)
  | _, _, _ => false

theorem wpC_of_wpM {Q : Act → World → Prop} (hCl : ∀ k d, ∃ k', bw (Cl k) d = Cl k') (hsel : Region.noSelect ops = true) :
    ∀ (s : List Nat) (l : List Oper) (k : Nat) (listed : Array Bool) (a : Act) (w : World), (∀ j, l[j]? = ops[k + j]?) → (∃ k, w = Cl k) → lexM md ops s k listed = true →
    wpM P ops Cl Q s l a w → wpC P md ops Cl Q l.length listed a w
  | [], l, k, listed, a, w, hl, hw, hB, h => by
    simp only [lexM, Bool.and_eq_true, decide_eq_true_eq, List.isEmpty_iff] at hB
    have : l = [] := by
      cases l with
      | nil => rfl
      | cons o l => have := hl 0; rw [Nat.add_zero, hB.1, Array.getElem?_eq_none (Nat.le_refl _)] at this; simp at this
    subst this
    exact ⟨hB.2, h⟩
  | 0 :: s, l, k, listed, a, w, hl, hw, hB, h => by
    simp only [lexM, Bool.and_eq_true, decide_eq_true_eq] at hB
    obtain ⟨⟨⟨hk, hr⟩, hf⟩, hB'⟩ := hB
    cases l with
    | nil => have := hl 0; rw [Nat.add_zero, Array.getElem?_eq_getElem hk] at this; simp at this
    | cons o l =>
      have h0 : ops[k]? = some o := by simpa using (hl 0).symm
      have hr' : k ∈ Region.ready md ops listed := by simpa using hr
      have hy : ∃ v, YieldsM P ops Cl o v a ∧ wpM P ops Cl Q s l (a.put o.dst v) w := by
        simp only [wpM] at h
        by_cases hw1 : Region.wanted o (yielded ops a.tmps) = true
        · rw [if_pos hw1] at h
          obtain ⟨v, h1, h2⟩ := h
          exact ⟨v, .inl ⟨hw1, h1⟩, h2⟩
        · rw [if_neg hw1] at h
          exact ⟨undef, .inr ⟨by simpa using hw1, rfl⟩, h⟩
      obtain ⟨v, hy, hK⟩ := hy
      exact wpC_first hCl h0 (Region.noSelect_spec hsel) l.length listed a w hw (Region.free_spec h0 hf) hr' hy
        (wpC_of_wpM hCl hsel s l (k + 1) _ _ w (fun j => by have := hl (j + 1); simpa [Nat.add_assoc, Nat.add_comm 1 j] using this) hw hB' hK)
  | 1 :: s, l, k, listed, a, w, hl, hw, hB, h => by
    simp only [lexM, Bool.and_eq_true, decide_eq_true_eq] at hB
    obtain ⟨⟨hk, hr⟩, hB'⟩ := hB
    cases l with
    | nil => have := hl 0; rw [Nat.add_zero, Array.getElem?_eq_getElem hk] at this; simp at this
    | cons o l =>
      have h0 : ops[k]? = some o := by simpa using (hl 0).symm
      have hl' : ∀ j, l[j]? = ops[k + 1 + j]? := fun j => by have := hl (j + 1); simpa [Nat.add_assoc, Nat.add_comm 1 j] using this
      refine ⟨by rw [hr]; simp, fun i hi d => ?_⟩
      rw [hr] at hi
      obtain rfl : i = k := by simpa using hi
      simp only [wpM] at h
      have hd := h d
      rw [oneOp_some h0]
      split
      · rename_i hw1; rw [if_pos hw1] at hd
        exact sOp_mono (fun a' w' hk => ⟨hk.1, wpC_of_wpM hCl hsel s l (i + 1) _ _ w' hl' hk.1 hB' hk.2⟩) hd
      · rename_i hw1; rw [if_neg hw1] at hd
        exact ⟨hd.1, wpC_of_wpM hCl hsel s l (i + 1) _ _ _ hl' hd.1 hB' hd.2⟩
  | 2 :: s, l, k, listed, a, w, hl, hw, hB, h => by
    simp only [lexM, Bool.and_eq_true, decide_eq_true_eq] at hB
    obtain ⟨⟨⟨⟨⟨hk, hr⟩, hr1⟩, hr2⟩, hg⟩, hB'⟩ := hB
    match l with
    | [] => have := hl 0; rw [Nat.add_zero, Array.getElem?_eq_getElem (by omega)] at this; simp at this
    | [o] => have := hl 1; rw [Array.getElem?_eq_getElem hk] at this; simp at this
    | o1 :: o2 :: l =>
      have h1 : ops[k]? = some o1 := by simpa using (hl 0).symm
      have h2 : ops[k + 1]? = some o2 := by simpa using (hl 1).symm
      have hl' : ∀ j, l[j]? = ops[k + 2 + j]? := fun j => by have := hl (j + 2); simpa [Nat.add_assoc, Nat.add_comm 2 j] using this
      rw [h1, h2] at hg
      simp only [Bool.and_eq_true, Option.isNone_iff_eq_none] at hg
      have wa : ∀ a, Region.wanted o1 (yielded ops a) = true := fun a => by simp [Region.wanted, hg.1]
      have wb : ∀ a, Region.wanted o2 (yielded ops a) = true := fun a => by simp [Region.wanted, hg.2]
      simp only [wpM] at h
      refine ⟨by rw [hr]; simp, fun i hi d => ?_⟩
      rw [hr] at hi
      simp only [List.mem_cons, List.not_mem_nil, or_false] at hi
      rcases hi with rfl | rfl
      · rw [oneOp_some h1, if_pos (wa _)]
        refine sOp_mono (fun a' w' hk => ⟨hk.1, by rw [hr1]; simp, fun j hj e => ?_⟩) (h.1 d)
        rw [hr1] at hj
        obtain rfl : j = i + 1 := by simpa using hj
        rw [oneOp_some h2, if_pos (wb _)]
        exact sOp_mono (fun a'' w'' hk' => ⟨hk'.1, wpC_of_wpM hCl hsel s l (i + 2) _ _ w'' hl' hk'.1 hB' hk'.2⟩) (hk.2 e)
      · rw [oneOp_some h2, if_pos (wb _)]
        refine sOp_mono (fun a' w' hq => ⟨hq.1, by rw [hr2]; simp, fun j hj e => ?_⟩) (h.2 d)
        rw [hr2] at hj
        obtain rfl : j = k := by simpa using hj
        rw [oneOp_some h1, if_pos (wa _)]
        refine sOp_mono (fun a'' w'' hk' => ⟨hk'.1, wpC_of_wpM hCl hsel s l (j + 2) _ _ w'' hl' hk'.1 ?_ hk'.2⟩) (hq.2 e)
        rw [Array.setIfInBounds_comm _ _ (by omega)]; exact hB'
  | (_ + 3) :: _, _, _, _, _, _, _, _, hB, _ => by simp [lexM] at hB

theorem region_mix {id : Nat} {Q : Exit → Act → World → Prop} {a : Act} {w : World} {l : List Oper} (s : List Nat) (Cl : κ → World) (hm : P.follows .mixedOrders = true) (hsel : Region.noSelect l.toArray = true)
    (hB : lexM .any l.toArray s 0 (Array.replicate l.toArray.size false) = true) (hCl : ∀ k d, ∃ k', bw (Cl k) d = Cl k') (hw : ∃ k, w = Cl k)
    (h : wpM P l.toArray Cl (fun a w => Q .normal a w) s l a w) : (Code.region id l.toArray true).wp P Q a w := by
  refine wp_region_any hm ?_
  have := wpC_of_wpM (md := .any) hCl hsel s l 0 _ a w (fun j => by simp) hw hB h
  have := wpC_ext (⟨#[], w.drawn + 1⟩ : Ext) this
  rw [← bw_drewExt] at this
  have := wpC_sound (Q' := Q) _ _ _ _ this
  simpa using this
theorem region_mixW {id : Nat} {Q : Exit → Act → World → Prop} {a : Act} {w : World} {l : List Oper} (s : List Nat) (hm : P.follows .mixedOrders = true) (hsel : Region.noSelect l.toArray = true)
    (hB : lexM .any l.toArray s 0 (Array.replicate l.toArray.size false) = true)
    (h : wpM P l.toArray (fun d => bw w d) (fun a w => Q .normal a w) s l a w) : (Code.region id l.toArray true).wp P Q a w :=
  region_mix s (fun d => bw w d) hm hsel hB (fun k d => ⟨_, bw_bw w k d⟩) ⟨noExt w, (bw_noExt w).symm⟩ h

theorem wpM_quiet {Q : Act → World → Prop} {a : Act} {w : World} {o : Oper} {l : List Oper} {s : List Nat}
    (h : ∀ K : Act → Prop, (∀ a, wpM P ops Cl Q s l a w → K a) → if Region.wanted o (yielded ops a.tmps) then mOp P Cl o a K else K (a.put o.dst undef)) : wpM P ops Cl Q (0 :: s) (o :: l) a w :=
  h _ (fun _ h => h)
theorem wpM_special {Q : Act → World → Prop} {a : Act} {w : World} {o : Oper} {l : List Oper} {s : List Nat}
    (h : ∀ (K : Act → World → Prop), (∀ a' w', (∃ k, w' = Cl k) → wpM P ops Cl Q s l a' w' → K a' w') → ∀ d, if Region.wanted o (yielded ops a.tmps) then sOp P o a K (bw w d) else K (a.put o.dst undef) (bw w d)) : wpM P ops Cl Q (1 :: s) (o :: l) a w := fun d => by
  have := h (fun a' w' => (∃ k, w' = Cl k) ∧ wpM P ops Cl Q s l a' w') (fun _ _ h1 h2 => ⟨h1, h2⟩) d
  split
  · rename_i hw; rw [if_pos hw] at this; exact this
  · rename_i hw; rw [if_neg hw] at this; exact this
theorem wpM_two {Q : Act → World → Prop} {a : Act} {w : World} {o1 o2 : Oper} {l : List Oper} {s : List Nat}
    (h1 : ∀ (J : Act → World → Prop), (∀ a' w', (∃ k, w' = Cl k) → (∀ (K : Act → World → Prop), (∀ a'' w'', (∃ k, w'' = Cl k) → wpM P ops Cl Q s l a'' w'' → K a'' w'') → ∀ d, sOp P o2 a' K (bw w' d)) → J a' w') → ∀ d, sOp P o1 a J (bw w d))
    (h2 : ∀ (J : Act → World → Prop), (∀ a' w', (∃ k, w' = Cl k) → (∀ (K : Act → World → Prop), (∀ a'' w'', (∃ k, w'' = Cl k) → wpM P ops Cl Q s l a'' w'' → K a'' w'') → ∀ d, sOp P o1 a' K (bw w' d)) → J a' w') → ∀ d, sOp P o2 a J (bw w d)) :
    wpM P ops Cl Q (2 :: s) (o1 :: o2 :: l) a w :=
  ⟨h1 _ fun _ _ hc hk => ⟨hc, fun d => hk _ (fun _ _ c h => ⟨c, h⟩) d⟩, h2 _ fun _ _ hc hk => ⟨hc, fun d => hk _ (fun _ _ c h => ⟨c, h⟩) d⟩⟩
theorem wpM_nil {Q : Act → World → Prop} {a : Act} {w : World} (h : ∀ d, Q a (bw w d)) : wpM P ops Cl Q [] [] a w := h
end
theorem lay_append (w : World) (L : List (Obj ⊕ Ext)) : ∀ L1, lay w (L1 ++ L) = lay (lay w L) L1
  | [] => rfl
  | .inl o :: L1 => by show (lay w (L1 ++ L)).alloc o = (lay (lay w L) L1).alloc o; rw [lay_append w L L1]
  | .inr d :: L1 => by show bw (lay w (L1 ++ L)) d = bw (lay (lay w L) L1) d; rw [lay_append w L L1]
theorem lay_fold (w : World) (L1 L : List (Obj ⊕ Ext)) : ∃ e, lay w (L1 ++ L) = lay w (.inr e :: L) := by
  obtain ⟨e, he⟩ := lay_ex (lay w L) L1
  exact ⟨e, (lay_append w L L1).trans he⟩
theorem lay_all (w : World) (L : List (Obj ⊕ Ext)) : ∃ e, lay w L = lay w [.inr e] := by
  obtain ⟨e, he⟩ := lay_ex w L
  exact ⟨e, he⟩
theorem lay_in (w : World) (L1 L : List (Obj ⊕ Ext)) : ∃ d, lay w (L1 ++ L) = bw (lay w L) d := by
  induction L1 with
  | nil => exact ⟨noExt _, (bw_noExt _).symm⟩
  | cons x L1 ih =>
    obtain ⟨d, hd⟩ := ih
    cases x with
    | inl o =>
      obtain ⟨e, he⟩ := bw_of ((bw_below (lay w L) d).alloc (bw_le _ d) o)
      exact ⟨e, by show (lay w (L1 ++ L)).alloc o = _; rw [hd]; exact he⟩
    | inr e => exact ⟨_, by show bw (lay w (L1 ++ L)) e = _; rw [hd]; exact bw_bw _ _ _⟩
end Go.Proofs.YtkhhdpndcidmgaaGreat
