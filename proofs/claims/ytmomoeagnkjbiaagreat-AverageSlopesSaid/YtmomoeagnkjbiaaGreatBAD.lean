/- Contracts and plain laws, several texts in one: AvQ; PuS; MixT; MixP -/
import Derived.Test.YtmomoeagnkjbiaaGreatProg
import Derived.WalkKit
import Derived.WalkSpells
import Derived.WalkLawsBesides
import Derived.Lib.Hide
import Derived.BigQuiet
import Derived.Maps.AppendAt
import Derived.Laws.AppendOwnNone
import Derived.StillTail
import Derived.Deep.AppendLies
import Derived.Test.YtmomoeagnkjbiaaGreatBAA
import Derived.Test.YtmomoeagnkjbiaaGreatBAB
import Derived.Test.YtmomoeagnkjbiaaGreatBAC
/- Sorted lists by a preorder: the k-th elements are alike; quotients; residuals. The plain law. No function of the program. -/
namespace Go.Proofs.YtmomoeagnkjbiaaGreat

/-- Two ascending lists with the same elements: the k-th ones are alike. -/
theorem kth_le {α : Type} (le : α → α → Bool) (tot : ∀ x y, le x y = true ∨ le y x = true) (tr : ∀ x y z, le x y = true → le y z = true → le x z = true) {a b : List α}
    (ha : a.Pairwise fun x y => le x y = true) (hb : b.Pairwise fun x y => le x y = true) (h : a.Perm b) {k : Nat} (hk : k < a.length) (hk2 : k < b.length) : le a[k] b[k] = true := by
  by_cases hn : le a[k] b[k] = true
  · exact hn
  exfalso
  have rf : ∀ x, le x x = true := fun x => (tot x x).elim id id
  have e1 : b.countP (fun z => le z b[k]) = a.countP (fun z => le z b[k]) := (h.countP_eq _).symm
  have h1 : k + 1 ≤ b.countP (fun z => le z b[k]) := by
    have e2 : (b.take (k + 1)).countP (fun z => le z b[k]) = (b.take (k + 1)).length := by
      refine List.countP_eq_length.2 fun z hz => ?_
      obtain ⟨i, hi, rfl⟩ := List.getElem_of_mem hz
      rw [List.length_take] at hi
      rw [List.getElem_take]
      by_cases he : i = k
      · subst he; exact rf _
      · exact List.pairwise_iff_getElem.1 hb i k (by omega) hk2 (by omega)
    have e3 : b.countP (fun z => le z b[k]) = (b.take (k + 1)).countP (fun z => le z b[k]) + (b.drop (k + 1)).countP (fun z => le z b[k]) := by
      rw [← List.countP_append, List.take_append_drop]
    rw [List.length_take] at e2
    omega
  have h2 : a.countP (fun z => le z b[k]) ≤ k := by
    have e2 : (a.drop k).countP (fun z => le z b[k]) = 0 := by
      refine List.countP_eq_zero.2 fun z hz hp => ?_
      obtain ⟨i, hi, rfl⟩ := List.getElem_of_mem hz
      rw [List.length_drop] at hi
      rw [List.getElem_drop] at hp
      refine hn (tr _ a[k + i] _ ?_ hp)
      by_cases he : i = 0
      · subst he; exact rf _
      · exact List.pairwise_iff_getElem.1 ha k (k + i) hk (by omega) (by omega)
    have e3 : a.countP (fun z => le z b[k]) = (a.take k).countP (fun z => le z b[k]) + (a.drop k).countP (fun z => le z b[k]) := by
      rw [← List.countP_append, List.take_append_drop]
    have e4 := List.countP_le_length (p := fun z => le z b[k]) (l := a.take k)
    rw [List.length_take] at e4
    omega
  omega
/-- A difference of readings, and the positive difference of their times. -/
structure RisV where
  h : Int
  t : Int
def risLe (a b : RisV) : Bool := decide (a.h * b.t ≤ b.h * a.t)
theorem risLe_tot (a b : RisV) : risLe a b = true ∨ risLe b a = true := by
  unfold risLe; simp only [decide_eq_true_eq]; omega
theorem risLe_tr {a b c : RisV} (ha : 0 < a.t) (hb : 0 < b.t) (hc : 0 < c.t) (h1 : risLe a b = true) (h2 : risLe b c = true) : risLe a c = true := by
  unfold risLe at *
  simp only [decide_eq_true_eq] at *
  have k1 := Int.mul_le_mul_of_nonneg_right h1 (Int.le_of_lt hc)
  have k2 := Int.mul_le_mul_of_nonneg_right h2 (Int.le_of_lt ha)
  have e1 : b.h * a.t * c.t = b.h * c.t * a.t := by rw [Int.mul_right_comm]
  have k3 : a.h * c.t * b.t ≤ c.h * a.t * b.t := by
    have e2 : a.h * b.t * c.t = a.h * c.t * b.t := by rw [Int.mul_right_comm]
    have e3 : c.h * b.t * a.t = c.h * a.t * b.t := by rw [Int.mul_right_comm]
    rw [← e2, ← e3]
    exact Int.le_trans (Int.le_trans k1 (Int.le_of_eq e1)) k2
  exact Int.le_of_mul_le_mul_right k3 hb
/-- The quotients at one place of two sorted lists are one. -/
theorem kth_quot {a b : List RisV} (hp : ∀ x ∈ a, 0 < x.t) (ha : a.Pairwise fun x y => risLe x y = true) (hb : b.Pairwise fun x y => risLe x y = true) (h : a.Perm b) {k : Nat} (hk : k < a.length) (hk2 : k < b.length) : a[k].h * b[k].t = b[k].h * a[k].t := by
  have hq : ∀ x ∈ b, 0 < x.t := fun x hx => hp x (h.symm.mem_iff.1 hx)
  have go : ∀ {a b : List RisV}, (∀ x ∈ a, 0 < x.t) → a.Pairwise (fun x y => risLe x y = true) → b.Pairwise (fun x y => risLe x y = true) → a.Perm b → ∀ (hk : k < a.length) (hk2 : k < b.length), risLe a[k] b[k] = true := by
    intro a b hp ha hb h hk hk2
    have hq : ∀ x ∈ b, 0 < x.t := fun x hx => hp x (h.symm.mem_iff.1 hx)
    have := kth_le (α := { x : RisV // 0 < x.t }) (fun x y => risLe x.1 y.1) (fun x y => risLe_tot _ _) (fun x y z h1 h2 => risLe_tr x.2 y.2 z.2 h1 h2)
      (a := a.pmap (fun x hx => ⟨x, hx⟩) hp) (b := b.pmap (fun x hx => ⟨x, hx⟩) hq) ?_ ?_ ?_ (k := k) (by simpa using hk) (by simpa using hk2)
    · simpa using this
    · exact (List.pairwise_pmap hp).2 (ha.imp fun h _ _ => h)
    · exact (List.pairwise_pmap hq).2 (hb.imp fun h _ _ => h)
    · exact h.pmap _
  have h1 := go hp ha hb h hk hk2
  have h2 := go hq hb ha h.symm hk2 hk
  unfold risLe at h1 h2
  simp only [decide_eq_true_eq] at h1 h2
  omega
/-- The residual of a reading. -/
def resI (t h n d : Int) : Int := h + (1000 * d - 2 * n * t) / (2000 * d)
theorem res_line (v s x : Int) : resI (1000 * x) (v + s * x) s 1 = v := by
  unfold resI
  have e : 2 * s * (1000 * x) = 2000 * (s * x) := by rw [Int.mul_assoc, Int.mul_left_comm s, ← Int.mul_assoc]; omega
  rw [e]; omega
end Go.Proofs.YtmomoeagnkjbiaaGreat
/- An append of a whole slice to a row of the call's own; slices cut (as in XPut, for a seat without audit). -/
namespace Go.Proofs.YtmomoeagnkjbiaaGreat
open Go.RowKit

theorem wf_append {l m : List Int} (hl : ∀ i, i < l.length → (Lit.int .i64 (nth l i)).wf = true) (hm : ∀ i, i < m.length → (Lit.int .i64 (nth m i)).wf = true) : ∀ i, i < (l ++ m).length → (Lit.int .i64 (nth (l ++ m) i)).wf = true := by
  intro i hi
  by_cases h : i < l.length
  · have : nth (l ++ m) i = nth l i := by unfold nth; simp [List.getD, List.getElem?_append, h]
    rw [this]; exact hl i h
  · have h2 : i - l.length < m.length := by simp at hi; omega
    have : nth (l ++ m) i = nth m (i - l.length) := by unfold nth; simp [List.getD, List.getElem?_append, h]
    rw [this]; exact hm _ h2
theorem map_get {l : List Int} {j : Nat} {u : Value} (h : (l.map (Value.int .i64))[j]? = some u) : j < l.length ∧ u = .int .i64 (nth l j) := by
  rw [List.getElem?_map] at h
  have hj : j < l.length := by
    rcases Nat.lt_or_ge j l.length with h1 | h1
    · exact h1
    · rw [List.getElem?_eq_none h1] at h; cases h
  rw [nth_getElem? hj] at h
  exact ⟨hj, by simpa using h.symm⟩
theorem push_sl {ops : Array Oper} {rest : List Oper} {o : Oper} {a : Act} {Q : Exit → Act → World → Prop} (hgd : o.guard = none) (s x : Operand)
    (ho : o.op = .call { callee := .builtin .append, args := #[s, x], argTypes := #[41, 41] })
    (W0 : World) (wb : World) (v1 : Value) (l1 : List Int) (A : Option Addr) (n c : Nat) (l2 : List Int) (hw : Below W0.heap.size W0 wb) (hown : Ow wb W0.heap.size v1 l1)
    (hsrc : Sl wb (.slice A n c) l2) (hA : A = none → c = 0) (hs : a.eval s = v1) (hx : a.eval x = .slice A n c) (hn : l1.length + l2.length ≤ 1000000000)
    (h : ∀ v' d, Ow (Go.Proofs.YtmomoeagnkjbiaaGreat.bw W0 d) W0.heap.size v' (l1 ++ l2) → wpList Tryz.prog ops Q rest (a.put o.dst v') (Go.Proofs.YtmomoeagnkjbiaaGreat.bw W0 d)) :
    wpList Tryz.prog ops Q (o :: rest) a wb := by
  obtain ⟨i, hi, hz0, hz1, hz2⟩ := info_parts info_intS
  have hM : maxLen = 9223372036854775807 := by decide
  obtain ⟨a', cap', he, hcc, hwf, hcell⟩ := hsrc
  simp only [Value.slice.injEq] at he
  obtain ⟨rfl, rfl, rfl⟩ := he
  cases A with
  | none =>
    obtain rfl := hA rfl
    have hl2 : l2 = [] := by
      rcases List.eq_nil_or_concat l2 with h | ⟨_, _, h⟩
      · exact h
      · have : l2 ≠ [] := by rw [h]; simp
        obtain ⟨_, _, h, _⟩ := hcell this
        cases h
    subst hl2
    obtain ⟨d, rfl⟩ := bw_of hw
    refine wpList_append_own_none hgd s x 41 ho W0.heap.size 3 i 1 Tryz.underlying41 hi v1 l1.length (l1.map (Value.int .i64)) hs hown.1 hx ?_
    exact h v1 d (by rw [List.append_nil]; exact hown)
  | some ad =>
    refine wpList_append_own wb hgd s x 41 ho W0.heap.size 3 i (.int .i64 0) 1 8 Tryz.underlying41 hi hz0 hz1 hz2 rfl (by decide) v1 l1.length (l1.map (Value.int .i64)) hs hown.1 ad l2.length c (l2.map (Value.int .i64)) hx (by simp) ?_ ?_ (by omega) (by omega) hw.size ?_
    · intro j u hu
      obtain ⟨hj, rfl⟩ := map_get hu
      obtain ⟨b, o', e, _, hr⟩ := hcell (by intro e; rw [e] at hj; exact absurd hj (Nat.not_lt_zero _))
      cases e
      rw [s_add_none1 rfl]
      exact hr j hj
    · intro u hu
      obtain ⟨y, _, rfl⟩ := List.mem_map.1 hu
      rfl
    · intro v' w' hown' hg _
      obtain ⟨d, hd⟩ := bw_of (w := W0) (w' := w') (hw.grown hg hw.size (fun k hk => (hown.1.lt k hk).1))
      subst hd
      exact h v' d ⟨by rw [List.length_append, List.map_append]; exact hown', wf_append hown.2 hwf⟩
/-- An empty literal. -/
theorem ow_empty {w : World} {L : List (Obj ⊕ Ext)} : Ow (lay w (.inl (.cells #[] 3 (0, 0)) :: L)) (lay w L).heap.size (.slice (some ⟨posn w (shp L), 0, none⟩) 0 0) [] := by
  rw [← lay_size w L]
  exact ⟨World.ownsRow_lit (lay w L) #[] 0 (Nat.le_refl _) (by decide) rfl, fun i hi => absurd hi (Nat.not_lt_zero i)⟩
/-- A slice cut out of one. -/
theorem nth_cut {l : List Int} {f n i : Nat} (h : i < n) : nth ((l.drop f).take n) i = nth l (f + i) := by
  unfold nth; simp [List.getD, h]
theorem sl_cut {w : World} {b o n cap f k c : Nat} {l : List Int} (h : Sl w (.slice (some ⟨b, o, none⟩) n cap) l) (hf : f + k ≤ l.length) (hc : k ≤ c ∧ c ≤ 9223372036854775807) : Sl w (.slice (some ⟨b, o + f, none⟩) k c) ((l.drop f).take k) := by
  have hl : ((l.drop f).take k).length = k := by rw [List.length_take, List.length_drop]; omega
  obtain ⟨a', cap', he, hcc, hwf, hcell⟩ := h
  simp only [Value.slice.injEq] at he
  obtain ⟨he, rfl, rfl⟩ := he
  refine ⟨_, c, by rw [hl], by rw [hl]; exact hc, fun i hi => ?_, fun hne => ⟨b, o + f, rfl, ?_⟩⟩
  · rw [hl] at hi
    rw [nth_cut hi]; exact hwf _ (by omega)
  · have hk : 0 < k := by rw [← hl]; exact List.length_pos_iff.2 hne
    obtain ⟨b', o', e, hb, hr⟩ := hcell (by intro e; rw [e] at hf; simp at hf; omega)
    rw [← he] at e
    cases e
    refine ⟨hb, fun i hi => ?_⟩
    rw [hl] at hi
    rw [nth_cut hi, Nat.add_assoc]
    exact hr _ (by omega)
theorem sl_none {w : World} {a : Option Addr} {c : Nat} (hc : c ≤ 9223372036854775807) : Sl w (.slice a 0 c) [] := ⟨a, c, rfl, ⟨Nat.zero_le _, hc⟩, fun i hi => absurd hi (Nat.not_lt_zero i), fun h => absurd rfl h⟩
/-- The call returns a row of its own that holds these ints, in a world that extends the one before. -/
def RwO (w : World) (l : List Int) (e : Ending) (w' : World) : Prop := ∃ v d, e = .returned v ∧ w' = bw w d ∧ Ow (bw w d) w.heap.size v l
end Go.Proofs.YtmomoeagnkjbiaaGreat
/- Regions that draw their order, by a schedule, with a tail behind it: the last operations follow in the text's order, and may do to the world what they will. No program in sight. -/
namespace Go.Proofs.YtmomoeagnkjbiaaGreat
open Go.RowKit

section
variable {P : Program} {ops : Array Oper} {md : Region.Mode} {κ : Type} {Cl : κ → World}

def mixT (P : Program) (md : Region.Mode) (ops : Array Oper) (Cl : κ → World) (n : Nat) (L : Array Bool → Act → World → Prop) : Nat → Array Bool → Act → World → Prop
  | 0, listed, a, w => ∀ d, L listed a (bw w d)
  | f + 1, listed, a, w => Region.ready md ops listed ≠ [] ∧ ∀ i ∈ Region.ready md ops listed, i < n ∧ ∀ d, oneOp P ops i (fun a' w' => (∃ k, w' = Cl k) ∧ mixT P md ops Cl n L f (listed.setIfInBounds i true) a' w') a (bw w d)
theorem mixT_ext {n : Nat} {L : Array Bool → Act → World → Prop} : ∀ {f : Nat} {listed : Array Bool} {a : Act} {w : World} (d : Ext), mixT P md ops Cl n L f listed a w → mixT P md ops Cl n L f listed a (bw w d)
  | 0, _, _, w, d, h => fun e => by rw [bw_bw]; exact h _
  | _ + 1, _, _, w, d, h => ⟨h.1, fun i hi => ⟨(h.2 i hi).1, fun e => by rw [bw_bw]; exact (h.2 i hi).2 _⟩⟩
theorem mixT_sound {n g : Nat} {L : Array Bool → Act → World → Prop} {Q' : Exit → Act → World → Prop} (hL : ∀ listed a w, L listed a w → wpAny P md ops Q' g listed a w) :
    ∀ (f : Nat) (listed : Array Bool) (a : Act) (w : World), mixT P md ops Cl n L f listed a w → wpAny P md ops Q' (f + g) listed a w
  | 0, listed, a, w, h => by rw [Nat.zero_add]; have := h (noExt w); rw [bw_noExt] at this; exact hL _ _ _ this
  | f + 1, listed, a, w, h => by
    rw [show f + 1 + g = (f + g) + 1 by omega]
    refine ⟨fun h0 => absurd h0 h.1, fun i hi => ?_⟩
    have h1 := (h.2 i hi).2 (noExt w)
    rw [bw_noExt] at h1
    unfold oneOp at h1
    unfold wpOp
    split
    · rename_i ho; simp only [ho] at h1; exact mixT_sound hL f _ _ _ h1.2
    · rename_i o ho
      simp only [ho] at h1
      split
      · rename_i hw; rw [if_pos hw] at h1
        exact Or.inl (wp_of_sOp (sOp_mono (fun a w hk => mixT_sound hL f _ a w hk.2) h1))
      · rename_i hw; rw [if_neg hw] at h1; exact mixT_sound hL f _ _ _ h1.2

theorem mixT_first {n i : Nat} {oi : Oper} {v : Value} {L : Array Bool → Act → World → Prop} (hCl : ∀ k d, ∃ k', bw (Cl k) d = Cl k') (hi : ops[i]? = some oi) (hsel : ∀ (j : Nat) (o : Oper) cs b, ops[j]? = some o → o.op ≠ .select cs b)
    (hs : Region.sinkB md ops n = true) (hc : Region.chainB md ops n = true) (hn : n < ops.size) (hin : i < n) (hdone : ∀ listed a w, L listed a w → ∀ j ∈ Region.ready md ops listed, n ≤ j) :
    ∀ (f : Nat) (listed : Array Bool) (a : Act) (w : World), (∃ k, w = Cl k) → HeadInv md ops n listed →
      (∀ j oj, ops[j]? = some oj → j ≠ i → listed.getD j true = false → (∀ e ∈ oj.after, Region.binds md e = true → e.on ≠ i) → oi.apart ops oj = true) →
      i ∈ Region.ready md ops listed → YieldsM P ops Cl oi v a →
      mixT P md ops Cl n L f (listed.setIfInBounds i true) (a.put oi.dst v) w → mixT P md ops Cl n L (f + 1) listed a w := by
  have cl : ∀ w d, (∃ k, w = Cl k) → ∃ k, bw w d = Cl k := fun w d ⟨k, hk⟩ => by rw [hk]; exact hCl k d
  intro f
  induction f with
  | zero =>
    intro listed a w hw inv _ hr hy H
    have hun := (mem_ready.1 hr).1
    have early : ∀ j ∈ Region.ready md ops listed, j < n := fun j hj =>
      Nat.lt_of_not_le fun hle => tail_waits hs hc hn inv _ i rfl hin hun j hle hj
    refine ⟨List.ne_nil_of_mem hr, fun j hj => ⟨early j hj, fun d => ?_⟩⟩
    by_cases hji : j = i
    · subst hji
      exact hy.oneOp hi (cl w d hw) ⟨cl w d hw, mixT_ext d H⟩ (fun e => ⟨cl _ e (cl w d hw), mixT_ext e (mixT_ext d H)⟩)
    · exact absurd (hdone _ _ _ (H (noExt w)) j (ready_mono hj hji)) (Nat.not_le_of_lt (early j hj))
  | succ f ih =>
    intro listed a w hw inv hfree hr hy H
    have hun := (mem_ready.1 hr).1
    have early : ∀ j ∈ Region.ready md ops listed, j < n := fun j hj =>
      Nat.lt_of_not_le fun hle => tail_waits hs hc hn inv _ i rfl hin hun j hle hj
    refine ⟨List.ne_nil_of_mem hr, fun j hj => ⟨early j hj, fun d => ?_⟩⟩
    by_cases hji : j = i
    · subst hji
      exact hy.oneOp hi (cl w d hw) ⟨cl w d hw, mixT_ext d H⟩ (fun e => ⟨cl _ e (cl w d hw), mixT_ext e (mixT_ext d H)⟩)
    · have h1 := (H.2 j (ready_mono hj hji)).2 d
      obtain ⟨hjun, oj, hoj, hall⟩ := mem_ready.1 hj
      have hnot : ∀ e ∈ oj.after, Region.binds md e = true → e.on ≠ i := fun e he hb heq => by
        have h2 := hall e he hb
        rw [heq, getD_both hun] at h2
        cases h2
      have h2 := oneOp_put hoj (hfree j oj hoj hji hjun hnot) (fun cs b => hsel i oi cs b hi) (fun cs b => hsel j oj cs b hoj) hy h1
      have hfree' : ∀ k ok, ops[k]? = some ok → k ≠ i → (listed.setIfInBounds j true).getD k true = false →
          (∀ e ∈ ok.after, Region.binds md e = true → e.on ≠ i) → oi.apart ops ok = true := fun k ok hk hki hu hno => by
        refine hfree k ok hk hki ?_ hno
        by_cases hjk : j = k
        · subst hjk; exact hjun
        · rw [getD_set_ne true hjk] at hu; exact hu
      refine oneOp_mono (fun a' w' h3 => ⟨h3.2.1, ih (listed.setIfInBounds j true) a' w' h3.2.1 (inv.set hj (early j hj)) hfree' (ready_mono hr (Ne.symm hji)) h3.1 ?_⟩) h2
      rw [Array.setIfInBounds_comm _ _ hji]
      exact h3.2.2

def lexMT (md : Region.Mode) (ops : Array Oper) (n g : Nat) : List Nat → Nat → Array Bool → Bool
  | [], k, listed => decide (k = n) && Region.seqB md ops g k listed
  | 0 :: s, k, listed => decide (k < n) && (Region.ready md ops listed).contains k && Region.free md ops listed k && lexMT md ops n g s (k + 1) (listed.setIfInBounds k true)
  | 1 :: s, k, listed => decide (k < n) && decide (Region.ready md ops listed = [k]) && lexMT md ops n g s (k + 1) (listed.setIfInBounds k true)
  | _, _, _ => false

theorem mixT_of_wpM {n g : Nat} {Lq : Act → World → Prop} (hCl : ∀ k d, ∃ k', bw (Cl k) d = Cl k') (hsel : Region.noSelect ops = true) (hs : Region.sinkB md ops n = true) (hc : Region.chainB md ops n = true) (hn : n < ops.size) :
    ∀ (s : List Nat) (l : List Oper) (k : Nat) (listed : Array Bool) (a : Act) (w : World), (∀ j, j < l.length → l[j]? = ops[k + j]?) → k + l.length = n → HeadInv md ops n listed → (∃ k, w = Cl k) → lexMT md ops n g s k listed = true →
    wpM P ops Cl Lq s l a w → mixT P md ops Cl n (fun listed' a' w' => Region.seqB md ops g n listed' = true ∧ Lq a' w') l.length listed a w
  | [], l, k, listed, a, w, hl, hk, inv, hw, hB, h => by
    simp only [lexMT, Bool.and_eq_true, decide_eq_true_eq] at hB
    obtain ⟨hkn, hB⟩ := hB
    have : l = [] := List.eq_nil_of_length_eq_zero (by omega)
    subst this
    subst hkn
    exact fun d => ⟨hB, h d⟩
  | 0 :: s, l, k, listed, a, w, hl, hk, inv, hw, hB, h => by
    simp only [lexMT, Bool.and_eq_true, decide_eq_true_eq] at hB
    obtain ⟨⟨⟨hkn, hr⟩, hf⟩, hB'⟩ := hB
    cases l with
    | nil => simp at hk; omega
    | cons o l =>
      have h0 : ops[k]? = some o := by simpa using (hl 0 (by simp)).symm
      have hr' : k ∈ Region.ready md ops listed := by simpa using hr
      have hy : ∃ v, YieldsM P ops Cl o v a ∧ wpM P ops Cl Lq s l (a.put o.dst v) w := by
        simp only [wpM] at h
        by_cases hw1 : Region.wanted o (yielded ops a.tmps) = true
        · rw [if_pos hw1] at h
          obtain ⟨v, h1, h2⟩ := h
          exact ⟨v, .inl ⟨hw1, h1⟩, h2⟩
        · rw [if_neg hw1] at h
          exact ⟨undef, .inr ⟨by simpa using hw1, rfl⟩, h⟩
      obtain ⟨v, hy, hK⟩ := hy
      simp only [List.length_cons] at hk
      exact mixT_first hCl h0 (Region.noSelect_spec hsel) hs hc hn hkn (fun _ _ _ hL => seqB_ready hL.1) l.length listed a w hw inv (Region.free_spec h0 hf) hr' hy
        (mixT_of_wpM hCl hsel hs hc hn s l (k + 1) _ _ w (fun j hj => by have := hl (j + 1) (by simp; omega); simpa [Nat.add_assoc, Nat.add_comm 1 j] using this) (by omega) (inv.set hr' hkn) hw hB' hK)
  | 1 :: s, l, k, listed, a, w, hl, hk, inv, hw, hB, h => by
    simp only [lexMT, Bool.and_eq_true, decide_eq_true_eq] at hB
    obtain ⟨⟨hkn, hr⟩, hB'⟩ := hB
    cases l with
    | nil => simp at hk; omega
    | cons o l =>
      have h0 : ops[k]? = some o := by simpa using (hl 0 (by simp)).symm
      simp only [List.length_cons] at hk
      have hl' : ∀ j, j < l.length → l[j]? = ops[k + 1 + j]? := fun j hj => by have := hl (j + 1) (by simp; omega); simpa [Nat.add_assoc, Nat.add_comm 1 j] using this
      have inv' := inv.set (i := k) (by rw [hr]; simp) hkn
      refine ⟨by rw [hr]; simp, fun i hi => ?_⟩
      rw [hr] at hi
      obtain rfl : i = k := by simpa using hi
      refine ⟨hkn, fun d => ?_⟩
      simp only [wpM] at h
      have hd := h d
      rw [oneOp_some h0]
      split
      · rename_i hw1; rw [if_pos hw1] at hd
        exact sOp_mono (fun a' w' hk' => ⟨hk'.1, mixT_of_wpM hCl hsel hs hc hn s l (i + 1) _ _ w' hl' (by omega) inv' hk'.1 hB' hk'.2⟩) hd
      · rename_i hw1; rw [if_neg hw1] at hd
        exact ⟨hd.1, mixT_of_wpM hCl hsel hs hc hn s l (i + 1) _ _ _ hl' (by omega) inv' hd.1 hB' hd.2⟩
  | (_ + 2) :: _, _, _, _, _, _, _, _, _, _, hB, _ => by simp [lexMT] at hB

theorem region_mixT {id : Nat} {Q : Exit → Act → World → Prop} {a : Act} {w : World} {l : List Oper} (n : Nat) (s : List Nat) (hm : P.follows .mixedOrders = true) (hsel : Region.noSelect l.toArray = true)
    (hs : Region.sinkB .any l.toArray n = true) (hc : Region.chainB .any l.toArray n = true) (hn : n < l.toArray.size)
    (hB : lexMT .any l.toArray n (l.toArray.size - n) s 0 (Array.replicate l.toArray.size false) = true)
    (h : wpM P l.toArray (fun d => bw w d) (fun a w => wpList P l.toArray Q (l.drop n) a w) s (l.take n) a w) : (Code.region id l.toArray true).wp P Q a w := by
  have hn' : n < l.length := by simpa using hn
  have htl : (l.take n).length = n := by simp; omega
  have hdl : (l.drop n).length = l.toArray.size - n := by simp
  have inv0 : HeadInv .any l.toArray n (Array.replicate l.toArray.size false) :=
    ⟨by simp, fun j oj _ hl => (by rw [getD_replicate_false] at hl; cases hl), fun t _ ht => getD_in (by simpa using ht) (getD_replicate_false _ _)⟩
  have H := mixT_of_wpM (md := .any) (g := l.toArray.size - n) (fun k d => ⟨_, bw_bw w k d⟩) hsel hs hc hn s (l.take n) 0 _ a w (fun j hj => by
    have hj' : j < n := by rw [htl] at hj; exact hj
    simp [hj']) (by simpa using htl) inv0 ⟨noExt w, (bw_noExt w).symm⟩ hB h
  refine wp_region_any hm ?_
  have := mixT_ext (⟨#[], w.drawn + 1⟩ : Ext) H
  rw [← bw_drewExt] at this
  have := mixT_sound (Q' := Q) (g := l.toArray.size - n) (fun listed a' w' hL => by
    have := wpAny_of_seq (md := .any) (Q' := Q) (l.drop n) n listed a' w' (fun j => by simp [List.getElem?_drop]) (by rw [hdl]; exact hL.1) hL.2
    rwa [hdl] at this) _ _ _ _ this
  rw [htl, show n + (l.toArray.size - n) = l.toArray.size by omega] at this
  exact this
end
/-- As wpList_push, the element lying in a block that was made at some time before. -/
theorem wpList_push2 {P : Program} {ops : Array Oper} {rest : List Oper} {o : Oper} {a : Act} {Q : Exit → Act → World → Prop} (hgd : o.guard = none) (s x : Operand) (t : TypeId)
    (ho : o.op = .call { callee := .builtin .append, args := #[s, x], argTypes := #[t, t] })
    (e : TypeId) (i : TypeInfo) (z : Value) (size bytes : Nat) (ht : P.underlying t = some (.slice e)) (hi : P.info? e = some i) (hz : i.zero = some z)
    (hsize : i.size = size) (hby : i.bytes = bytes) (hzs : z.cells.size = size) (hsz : 0 < size)
    (w0 wb : World) (c : Array Value) (te : TypeId) (xb : Nat) (v : Value) (n : Nat) (xs : List Value) (hw : Below w0.heap.size w0 wb) (hown : wb.ownsRow w0.heap.size e size v n xs)
    (hcell : wb.heap[xb]? = some (.cells c te (0, 0))) (hs : a.eval s = v) (hx : a.eval x = .slice (some ⟨xb, 0, none⟩) 1 1) (hc : c.size = size) (h1 : ∀ u ∈ c.toList, u.oneCell' = true)
    (hn : n + 1 ≤ maxLen) (hb : (n + 1) * bytes ≤ 140737488355328)
    (h : ∀ v' d, (bw w0 d).ownsRow w0.heap.size e size v' (n + 1) (xs ++ c.toList) → wpList P ops Q rest (a.put o.dst v') (bw w0 d)) :
    wpList P ops Q (o :: rest) a wb := by
  refine wpList_append_own _ hgd s x t ho w0.heap.size e i z size bytes ht hi hz hsize hby hzs hsz v n xs hs hown ⟨xb, 0, none⟩ 1 1 c.toList hx (by simp [hc]) (World.news_of_block hcell) h1 hn hb hw.size ?_
  intro v' w' hown' hg _
  obtain ⟨d, hd⟩ := bw_of (w := w0) (w' := w') (hw.grown hg hw.size (fun k hk => (hown.lt k hk).1))
  subst hd
  exact h v' d hown'
theorem row_bw {w : World} {base n size : Nat} {e : TypeId} {v : Value} {xs : List Value} (h : w.ownsRow base e size v n xs) (d : Ext) : (bw w d).ownsRow base e size v n xs :=
  h.kept (row := none) ⟨rfl, rfl, rfl, bw_le w d, fun k hk _ => bw_get w d k hk⟩ (by
    rcases h.2 with ⟨h1, _⟩ | ⟨g, cap, cur, h1, _⟩ <;> rw [h1]
    · exact .inl rfl
    · exact .inr (by simp [Value.ownBlock]))
theorem row_lay {w : World} {base n size : Nat} {e : TypeId} {v : Value} {xs : List Value} (h : w.ownsRow base e size v n xs) (L : List (Obj ⊕ Ext)) : (lay w L).ownsRow base e size v n xs := by
  obtain ⟨d, hd⟩ := lay_ex w L
  rw [hd]; exact row_bw h d
end Go.Proofs.YtmomoeagnkjbiaaGreat
/- Regions that draw their order, by a schedule in an order of one's own, with a tail. No program in sight. -/
namespace Go.Proofs.YtmomoeagnkjbiaaGreat
open Go.RowKit

section
variable {P : Program} {md : Region.Mode} {κ : Type} {Cl : κ → World} {l : List Oper} {ops : Array Oper}

def wpMP (P : Program) (l : List Oper) (ops : Array Oper) (Cl : κ → World) (Q : Act → World → Prop) : List (Nat × Nat) → Act → World → Prop
  | [], a, w => ∀ d, Q a (bw w d)
  | (i, 0) :: s, a, w => ∃ o, l[i]? = some o ∧ (if Region.wanted o (yielded ops a.tmps) then mOp P Cl o a (fun a' => wpMP P l ops Cl Q s a' w) else wpMP P l ops Cl Q s (a.put o.dst undef) w)
  | (i, 1) :: s, a, w => ∃ o, l[i]? = some o ∧ ∀ d, (if Region.wanted o (yielded ops a.tmps) then sOp P o a (fun a' w' => (∃ k, w' = Cl k) ∧ wpMP P l ops Cl Q s a' w') (bw w d) else (∃ k, bw w d = Cl k) ∧ wpMP P l ops Cl Q s (a.put o.dst undef) (bw w d))
  | (_, _ + 2) :: _, _, _ => False
def lexMP (md : Region.Mode) (ops : Array Oper) (n g : Nat) : List (Nat × Nat) → Array Bool → Bool
  | [], listed => Region.seqB md ops g n listed
  | (i, 0) :: s, listed => decide (i < n) && (Region.ready md ops listed).contains i && Region.free md ops listed i && lexMP md ops n g s (listed.setIfInBounds i true)
  | (i, 1) :: s, listed => decide (i < n) && decide (Region.ready md ops listed = [i]) && lexMP md ops n g s (listed.setIfInBounds i true)
  | (_, _ + 2) :: _, _ => false

theorem mixT_of_wpMP {n g : Nat} {Lq : Act → World → Prop} (hCl : ∀ k d, ∃ k', bw (Cl k) d = Cl k') (hl : ∀ j : Nat, l[j]? = ops[j]?) (hsel : Region.noSelect ops = true) (hs : Region.sinkB md ops n = true) (hc : Region.chainB md ops n = true) (hn : n < ops.size) :
    ∀ (s : List (Nat × Nat)) (listed : Array Bool) (a : Act) (w : World), HeadInv md ops n listed → (∃ k, w = Cl k) → lexMP md ops n g s listed = true →
    wpMP P l ops Cl Lq s a w → mixT P md ops Cl n (fun listed' a' w' => Region.seqB md ops g n listed' = true ∧ Lq a' w') s.length listed a w
  | [], listed, a, w, inv, hw, hB, h => fun d => ⟨hB, h d⟩
  | (k, 0) :: s, listed, a, w, inv, hw, hB, h => by
    simp only [lexMP, Bool.and_eq_true, decide_eq_true_eq] at hB
    obtain ⟨⟨⟨hkn, hr⟩, hf⟩, hB'⟩ := hB
    obtain ⟨o, ho, h⟩ := h
    have h0 : ops[k]? = some o := (hl k).symm.trans ho
    have hr' : k ∈ Region.ready md ops listed := by simpa using hr
    have hy : ∃ v, YieldsM P ops Cl o v a ∧ wpMP P l ops Cl Lq s (a.put o.dst v) w := by
      by_cases hw1 : Region.wanted o (yielded ops a.tmps) = true
      · rw [if_pos hw1] at h
        obtain ⟨v, h1, h2⟩ := h
        exact ⟨v, .inl ⟨hw1, h1⟩, h2⟩
      · rw [if_neg hw1] at h
        exact ⟨undef, .inr ⟨by simpa using hw1, rfl⟩, h⟩
    obtain ⟨v, hy, hK⟩ := hy
    exact mixT_first hCl h0 (Region.noSelect_spec hsel) hs hc hn hkn (fun _ _ _ hL => seqB_ready hL.1) s.length listed a w hw inv (Region.free_spec h0 hf) hr' hy
      (mixT_of_wpMP hCl hl hsel hs hc hn s _ _ w (inv.set hr' hkn) hw hB' hK)
  | (k, 1) :: s, listed, a, w, inv, hw, hB, h => by
    simp only [lexMP, Bool.and_eq_true, decide_eq_true_eq] at hB
    obtain ⟨⟨hkn, hr⟩, hB'⟩ := hB
    obtain ⟨o, ho, h⟩ := h
    have h0 : ops[k]? = some o := (hl k).symm.trans ho
    have inv' := inv.set (i := k) (by rw [hr]; simp) hkn
    refine ⟨by rw [hr]; simp, fun i hi => ?_⟩
    rw [hr] at hi
    obtain rfl : i = k := by simpa using hi
    refine ⟨hkn, fun d => ?_⟩
    have hd := h d
    rw [oneOp_some h0]
    split
    · rename_i hw1; rw [if_pos hw1] at hd
      exact sOp_mono (fun a' w' hk' => ⟨hk'.1, mixT_of_wpMP hCl hl hsel hs hc hn s _ _ w' inv' hk'.1 hB' hk'.2⟩) hd
    · rename_i hw1; rw [if_neg hw1] at hd
      exact ⟨hd.1, mixT_of_wpMP hCl hl hsel hs hc hn s _ _ _ inv' hd.1 hB' hd.2⟩
  | (_, _ + 2) :: _, _, _, _, _, _, hB, _ => by simp [lexMP] at hB

theorem region_mixP {id : Nat} {Q : Exit → Act → World → Prop} {a : Act} {w : World} {l : List Oper} (s : List (Nat × Nat)) (hm : P.follows .mixedOrders = true) (hsel : Region.noSelect l.toArray = true)
    (hs : Region.sinkB .any l.toArray s.length = true) (hc : Region.chainB .any l.toArray s.length = true) (hn : s.length < l.toArray.size)
    (hB : lexMP .any l.toArray s.length (l.toArray.size - s.length) s (Array.replicate l.toArray.size false) = true)
    (h : wpMP P l l.toArray (fun d => bw w d) (fun a w => wpList P l.toArray Q (l.drop s.length) a w) s a w) : (Code.region id l.toArray true).wp P Q a w := by
  have hn' : s.length < l.length := by simpa using hn
  have hdl : (l.drop s.length).length = l.toArray.size - s.length := by simp
  have inv0 : HeadInv .any l.toArray s.length (Array.replicate l.toArray.size false) :=
    ⟨by simp, fun j oj _ hl => (by rw [getD_replicate_false] at hl; cases hl), fun t _ ht => getD_in (by simpa using ht) (getD_replicate_false _ _)⟩
  have H := mixT_of_wpMP (md := .any) (g := l.toArray.size - s.length) (fun k d => ⟨_, bw_bw w k d⟩) (fun j => by simp) hsel hs hc hn s _ a w inv0 ⟨noExt w, (bw_noExt w).symm⟩ hB h
  refine wp_region_any hm ?_
  have := mixT_ext (⟨#[], w.drawn + 1⟩ : Ext) H
  rw [← bw_drewExt] at this
  have := mixT_sound (Q' := Q) (g := l.toArray.size - s.length) (fun listed a' w' hL => by
    have := wpAny_of_seq (md := .any) (Q' := Q) (l.drop s.length) s.length listed a' w' (fun j => by simp [List.getElem?_drop]) (by rw [hdl]; exact hL.1) hL.2
    rwa [hdl] at this) _ _ _ _ this
  rw [show s.length + (l.toArray.size - s.length) = l.toArray.size by omega] at this
  exact this
theorem wpMP_quiet {Q : Act → World → Prop} {a : Act} {w : World} {i : Nat} {o : Oper} {s : List (Nat × Nat)} (ho : l[i]? = some o)
    (h : ∀ K : Act → Prop, (∀ a, wpMP P l ops Cl Q s a w → K a) → if Region.wanted o (yielded ops a.tmps) then mOp P Cl o a K else K (a.put o.dst undef)) : wpMP P l ops Cl Q ((i, 0) :: s) a w :=
  ⟨o, ho, h _ (fun _ h => h)⟩
theorem wpMP_special {Q : Act → World → Prop} {a : Act} {w : World} {i : Nat} {o : Oper} {s : List (Nat × Nat)} (ho : l[i]? = some o)
    (h : ∀ (K : Act → World → Prop), (∀ a' w', (∃ k, w' = Cl k) → wpMP P l ops Cl Q s a' w' → K a' w') → ∀ d, if Region.wanted o (yielded ops a.tmps) then sOp P o a K (bw w d) else K (a.put o.dst undef) (bw w d)) : wpMP P l ops Cl Q ((i, 1) :: s) a w :=
  ⟨o, ho, fun d => by
    have := h (fun a' w' => (∃ k, w' = Cl k) ∧ wpMP P l ops Cl Q s a' w') (fun _ _ h1 h2 => ⟨h1, h2⟩) d
    split
    · rename_i hw; rw [if_pos hw] at this; exact this
    · rename_i hw; rw [if_neg hw] at this; exact this⟩
theorem wpMP_nil {Q : Act → World → Prop} {a : Act} {w : World} (h : ∀ d, Q a (bw w d)) : wpMP P l ops Cl Q [] a w := h
end
end Go.Proofs.YtmomoeagnkjbiaaGreat
