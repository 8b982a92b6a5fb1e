/- Contracts and plain laws, several texts in one: Idx; Av2; Av1; MixT -/
import Derived.Test.YtejmgdpgngjiiaaGreatProg
import Derived.WalkKit
import Derived.WalkSpells
import Derived.WalkLawsBesides
import Derived.Lib.Hide
import Derived.BigQuiet
import Derived.Shelf.Abstract
import Derived.StillTail
import Derived.Deep.AppendLies
import Derived.Test.YtejmgdpgngjiiaaGreatBAA
import Derived.Test.YtejmgdpgngjiiaaGreatBAB
import Derived.Test.YtejmgdpgngjiiaaGreatBAC
/- slices.IndexFunc and ContainsFunc at ints, for a closure with whatever captured variables. -/
namespace Go.Proofs.YtejmgdpgngjiiaaGreat
open Go.RowKit

/-- The first place from k on where p holds, or -1. -/
def idxP (l : List Int) (p : Int → Bool) : Nat → Nat → Int
  | _, 0 => -1
  | k, f + 1 => if p (nth l k) then (k : Int) else idxP l p (k + 1) f
theorem idxP_miss {l : List Int} {p : Int → Bool} {k m : Nat} (h : p (nth l k) = false) (hk : k < m) (e : idxP l p 0 m = idxP l p k (m - k)) : idxP l p 0 m = idxP l p (k + 1) (m - (k + 1)) := by
  rw [e, show m - k = (m - (k + 1)) + 1 by omega]
  show (if p (nth l k) then (k : Int) else _) = _
  rw [h]; rfl
theorem idxP_got {l : List Int} {p : Int → Bool} {k m : Nat} (h : p (nth l k) = true) (hk : k < m) (e : idxP l p 0 m = idxP l p k (m - k)) : idxP l p 0 m = (k : Int) := by
  rw [e, show m - k = (m - (k + 1)) + 1 by omega]
  show (if p (nth l k) then (k : Int) else _) = _
  rw [h]; rfl
theorem idxP_spec (l : List Int) (p : Int → Bool) : ∀ f k, k + f = l.length → decide (0 ≤ idxP l p k f) = (l.drop k).any p
  | 0, k, h => by rw [List.drop_of_length_le (by omega)]; rfl
  | f + 1, k, h => by
    have hk : k < l.length := by omega
    rw [List.drop_eq_getElem_cons hk, List.any_cons, ← idxP_spec l p f (k + 1) (by omega)]
    have e : nth l k = l[k] := by unfold nth; simp [List.getD, hk]
    show decide (0 ≤ (if p (nth l k) then (k : Int) else _)) = _
    rw [e]
    cases p l[k]
    · simp
    · simp
theorem idxP_any (l : List Int) (p : Int → Bool) : decide (0 ≤ idxP l p 0 l.length) = l.any p := by rw [idxP_spec l p l.length 0 (by omega)]; rfl

def IdxPost (w : World) (x : Int) (e : Ending) (w' : World) : Prop := e = .returned (.int .i64 x) ∧ ∃ d, w' = bw w d
set_option maxHeartbeats 1000000 in
theorem sl_IndexFuncL (g : FuncId) (lb : List Value) (p : Int → Bool) (v : Value) (l : List Int) (w : World) (hv : Sl w v l)
    (eI : ∀ args w, (callFunc g args).run Tryz.prog w = .ok (.enter g args) w)
    (hf : ∀ i, i < l.length → ∀ d, Calls Tryz.prog g (.int .i64 (nth l i) :: lb).toArray (bw w d) fun e w' => e = .returned (.bool (p (nth l i))) ∧ ∃ d, w' = bw w d) :
    Calls Tryz.prog 55 #[v, .func (.func g) #[] lb.toArray] w (IdxPost w (idxP l p 0 l.length)) := by
  by_cases hz : l = []
  · subst hz
    obtain ⟨a, cap, rfl, -⟩ := hv
    clear hf
    refine lay_start ?_
    go_enter Tryz.func55, Tryz.ntmps55
    go_wp2_with fail
    refine wp_loop_rounds 1 ?_
    rw [rounds_succ]
    go_wp2
    go_ret
    exact ⟨rfl, lay_ex _ _⟩
  · obtain ⟨b, o, cap, rfl, hc, -, hb, hr⟩ := hv.open (List.length_pos_iff.2 hz)
    obtain ⟨m, hm⟩ : ∃ m, l.length = m := ⟨_, rfl⟩
    have HF := Lib.hid (fun i (hi : i < m) d => hf i (by omega) d)
    rw [hm] at hr hc ⊢
    have HR := Lib.hid hr
    clear hf hz hm hr
    refine lay_start ?_
    go_enter Tryz.func55, Tryz.ntmps55
    go_wp2_with fail
    go_loopw [8] (fun i wr => ∃ (k : Nat) (d : Ext), k ≤ m ∧ i = .int .i64 k ∧ wr = lay w [.inr d] ∧ idxP l p 0 m = idxP l p k (m - k)) (fun i _ => m - (intOf i).toNat)
    case atStart => exact ⟨0, noExt _, Nat.zero_le _, rfl, (bw_noExt _).symm, rfl⟩
    case round =>
      obtain ⟨k, d, hk, rfl, rfl, hA⟩ := hrel
      have HA := Lib.hid hA
      clear hA
      by_cases hlt : k < m
      · have e1 := HR.out k hlt
        have H1 := Lib.hid (HF.out k hlt d)
        cases ho : p (nth l k)
        · have HN := Lib.hid (idxP_miss ho hlt HA.out)
          rw [ho] at H1
          clear ho
          generalize nth l k = x at *
          go_wp2_with (refine H1.out.mono ?_; rintro e w' ⟨rfl, d1, rfl⟩)
          go_roundw
          case rel => exact ⟨k + 1, d1, by omega, by go_num, rfl, HN.out⟩
          case measure => simp [intOf]; omega
        · have HN := Lib.hid (idxP_got ho hlt HA.out)
          rw [ho] at H1
          clear ho
          generalize nth l k = x at *
          go_wp2_with (refine H1.out.mono ?_; rintro e w' ⟨rfl, d1, rfl⟩)
          go_ret
          exact ⟨ret_int HN.out.symm, d1, rfl⟩
      · obtain rfl : k = m := by omega
        have HN : Hid ((-1 : Int) = idxP l p 0 k) := Lib.hid (by rw [HA.out, Nat.sub_self]; rfl)
        go_wp2
        go_ret
        exact ⟨ret_int HN.out, lay_ex _ _⟩
set_option maxHeartbeats 1000000 in
theorem sl_ContainsFuncL (g : FuncId) (lb : List Value) (p : Int → Bool) (v : Value) (l : List Int) (w : World) (hv : Sl w v l)
    (eI : ∀ args w, (callFunc g args).run Tryz.prog w = .ok (.enter g args) w)
    (hf : ∀ i, i < l.length → ∀ d, Calls Tryz.prog g (.int .i64 (nth l i) :: lb).toArray (bw w d) fun e w' => e = .returned (.bool (p (nth l i))) ∧ ∃ d, w' = bw w d) :
    Calls Tryz.prog 25 #[v, .func (.func g) #[] lb.toArray] w fun e w' => e = .returned (.bool (l.any p)) ∧ ∃ d, w' = bw w d := by
  have H := Lib.hid (sl_IndexFuncL g lb p v l w hv eI hf)
  rw [← idxP_any l p]
  obtain ⟨a, cap, rfl, -⟩ := hv
  generalize l.length = m at *
  clear hf eI
  generalize idxP l p 0 m = I at *
  go_enter Tryz.func25, Tryz.ntmps25
  go_wp2_with (go_at_call 55; refine H.out.mono ?_; rintro e w' ⟨rfl, d1, rfl⟩)
  go_ret
  exact ⟨rfl, d1, rfl⟩

end Go.Proofs.YtejmgdpgngjiiaaGreat
/- average.outside. -/
namespace Go.Proofs.YtejmgdpgngjiiaaGreat
open Go.RowKit Go.Shelf

set_option maxRecDepth 100000 in
theorem av_outside1 (n lim : Int) (b : Nat) (w : World) (hb : b < w.heap.size) (hc : w.cell? ⟨b, 0, none⟩ = some (.int .i64 lim)) (h1 : 0 ≤ lim) (h2 : lim ≤ 4611686018427387904) :
    Calls Tryz.prog 85 #[.int .i64 n, .pointer (some ⟨b, 0, none⟩)] w fun e w' => e = .returned (.bool (decide (lim < n) || decide (n < -lim))) ∧ ∃ d, w' = bw w d := by
  have k : IntKind.i64.wrap (-lim) = -lim := IntWalk.i64_in _ (by omega)
  have k2 : wrap64 (-lim) = -lim := by unfold wrap64; omega
  have hc' : ∀ L, (lay w L).cell? ⟨b, 0, none⟩ = some (.int .i64 lim) := fun L => (lay_old w L 0 b hb).trans hc
  clear h1 h2
  cases e1 : decide (lim < n)
  · cases e2 : decide (n < -lim)
    · have q1 : ¬ lim < n := of_decide_eq_false e1
      have q2 : ¬ n < -lim := of_decide_eq_false e2
      refine lay_start ?_
      go_enter Tryz.func85, Tryz.ntmps85
      go_wp2_with fail
      go_ret
      exact ⟨rfl, lay_ex _ _⟩
    · have q1 : ¬ lim < n := of_decide_eq_false e1
      have q2 : n < -lim := of_decide_eq_true e2
      refine lay_start ?_
      go_enter Tryz.func85, Tryz.ntmps85
      go_wp2_with fail
      go_ret
      exact ⟨rfl, lay_ex _ _⟩
  · have q1 : lim < n := of_decide_eq_true e1
    refine lay_start ?_
    go_enter Tryz.func85, Tryz.ntmps85
    go_wp2_with fail
    go_ret
    exact ⟨rfl, lay_ex _ _⟩
def outB (l : List Int) (lim : Int) : Bool := l.any fun n => decide (lim < n) || decide (n < -lim)
set_option maxRecDepth 100000 in
theorem av_outside (v : Value) (l : List Int) (lim : Int) (w : World) (hv : Sl w v l) (h1 : 0 ≤ lim) (h2 : lim ≤ 4611686018427387904) :
    Calls Tryz.prog 39 #[v, .int .i64 lim] w fun e w' => e = .returned (.bool (outB l lim)) ∧ ∃ d, w' = bw w d := by
  have eI : ∀ args w, (callFunc 85 args).run Tryz.prog w = .ok (.enter 85 args) w := enters_of Tryz.func85 (by kernel_rfl) rfl
  have HC := Lib.hid (sl_ContainsFuncL 85 [.pointer (some ⟨w.heap.size, 0, none⟩)] (fun n => decide (lim < n) || decide (n < -lim)) v l (lay w [.inl (.cells #[.int .i64 lim] 3 (0, 0))]) (hv.lay _) eI
    (fun i _ d => (av_outside1 (nth l i) lim w.heap.size (bw (lay w [.inl (.cells #[.int .i64 lim] 3 (0, 0))]) d) (by have := bw_le (lay w [.inl (.cells #[.int .i64 lim] 3 (0, 0))]) d; have e : (lay w [.inl (.cells #[.int .i64 lim] 3 (0, 0))]).heap.size = w.heap.size + 1 := World.size_alloc _ _; omega)
      (by
        have e : (lay w [.inl (.cells #[.int .i64 lim] 3 (0, 0))]).heap.size = w.heap.size + 1 := World.size_alloc _ _
        rw [bw_cell _ _ _ _ (by omega)]
        have e2 : (lay w [.inl (.cells #[.int .i64 lim] 3 (0, 0))]).heap[w.heap.size]? = some (.cells #[.int .i64 lim] 3 (0, 0)) := by show (w.heap.push _)[w.heap.size]? = _; simp
        simp [World.cell?, e2]) h1 h2).mono fun e w' ⟨k1, x, k2⟩ => ⟨k1, _, k2.trans (bw_bw _ _ _)⟩))
  unfold outB
  generalize l.any (fun n => decide (lim < n) || decide (n < -lim)) = r at *
  clear hv h1 h2
  refine lay_start ?_
  go_enter Tryz.func39, Tryz.ntmps39
  go_wp2_with fail
  refine HC.out.mono ?_
  rintro e w' ⟨rfl, d, rfl⟩
  go_wp2_with fail
  go_ret
  exact ⟨rfl, lay_ex _ _⟩
end Go.Proofs.YtejmgdpgngjiiaaGreat
/- average: size, lower, floor. -/
namespace Go.Proofs.YtejmgdpgngjiiaaGreat
open Go.RowKit

set_option maxRecDepth 100000 in
theorem av_size (n : Int) (w : World) (h1 : -4611686018427387904 ≤ n) (h2 : n ≤ 4611686018427387904) :
    Calls Tryz.prog 41 #[.int .i64 n] w fun e w' => e = .returned (.int .i64 (max n (-n))) ∧ ∃ d, w' = bw w d := by
  have k : IntKind.i64.wrap (-n) = -n := IntWalk.i64_in _ (by omega)
  by_cases h : n < -n
  · rw [show max n (-n) = -n by omega]
    refine lay_start ?_
    go_enter Tryz.func41, Tryz.ntmps41
    go_wp2_with fail
    go_ret
    exact ⟨by simp <;> omega, lay_ex _ _⟩
  · rw [show max n (-n) = n by omega]
    refine lay_start ?_
    go_enter Tryz.func41, Tryz.ntmps41
    go_wp2_with fail
    go_ret
    exact ⟨by simp <;> omega, lay_ex _ _⟩
set_option maxRecDepth 100000 in
theorem av_lower (n : Nat) (w : World) (h1 : 1 ≤ n) (h2 : n ≤ 1000000) :
    Calls Tryz.prog 60 #[.int .i64 (n : Int)] w fun e w' => e = .returned (.int .i64 (((n - 1) / 2 : Nat) : Int)) ∧ ∃ d, w' = bw w d := by
  obtain ⟨q, hq⟩ : ∃ q : Int, (((n - 1) / 2 : Nat) : Int) = q := ⟨_, rfl⟩
  have k1 : IntKind.i64.wrap ((n : Int) - 1) = (n : Int) - 1 := IntWalk.i64_in _ (by omega)
  have k2 : IntKind.i64.wrap (((n : Int) - 1).tdiv 2) = q := by
    rw [Int.tdiv_eq_ediv_of_nonneg (by omega), IntWalk.i64_in _ (by omega)]; omega
  have k3 : ((n : Int) - 1).tdiv 2 = q := by
    rw [Int.tdiv_eq_ediv_of_nonneg (by omega)]; omega
  have k4 : wrap64 q = q := by unfold wrap64; omega
  rw [hq]
  clear hq
  refine lay_start ?_
  go_enter Tryz.func60, Tryz.ntmps60
  go_wp2_with fail
  go_ret
  exact ⟨by rw [k4]; rfl, lay_ex _ _⟩
end Go.Proofs.YtejmgdpgngjiiaaGreat
/- Regions that draw their order, by a schedule, with a tail behind it: the last operations follow in the text's order, and may do to the world what they will. No program in sight. -/
namespace Go.Proofs.YtejmgdpgngjiiaaGreat
open Go.RowKit

section
variable {P : Program} {ops : Array Oper} {md : Region.Mode} {κ : Type} {Cl : κ → World}

def mixT (P : Program) (md : Region.Mode) (ops : Array Oper) (Cl : κ → World) (n : Nat) (L : Array Bool → Act → World → Prop) : Nat → Array Bool → Act → World → Prop
  | 0, listed, a, w => ∀ d, L listed a (bw w d)
  | f + 1, listed, a, w => Region.ready md ops listed ≠ [] ∧ ∀ i ∈ Region.ready md ops listed, i < n ∧ ∀ d, oneOp P ops i (fun a' w' => (∃ k, w' = Cl k) ∧ mixT P md ops Cl n L f (listed.setIfInBounds i true) a' w') a (bw w d)
theorem mixT_ext {n : Nat} {L : Array Bool → Act → World → Prop} : ∀ {f : Nat} {listed : Array Bool} {a : Act} {w : World} (d : Ext), mixT P md ops Cl n L f listed a w → mixT P md ops Cl n L f listed a (bw w d)
  | 0, _, _, w, d, h => fun e => by rw [bw_bw]; exact h _
  | _ + 1, _, _, w, d, h => ⟨h.1, fun i hi => ⟨(h.2 i hi).1, fun e => by rw [bw_bw]; exact (h.2 i hi).2 _⟩⟩
theorem mixT_sound {n g : Nat} {L : Array Bool → Act → World → Prop} {Q' : Exit → Act → World → Prop} (hL : ∀ listed a w, L listed a w → wpAny P md ops Q' g listed a w) :
    ∀ (f : Nat) (listed : Array Bool) (a : Act) (w : World), mixT P md ops Cl n L f listed a w → wpAny P md ops Q' (f + g) listed a w
  | 0, listed, a, w, h => by rw [Nat.zero_add]; have := h (noExt w); rw [bw_noExt] at this; exact hL _ _ _ this
  | f + 1, listed, a, w, h => by
    rw [show f + 1 + g = (f + g) + 1 by omega]
    refine ⟨fun h0 => absurd h0 h.1, fun i hi => ?_⟩
    have h1 := (h.2 i hi).2 (noExt w)
    rw [bw_noExt] at h1
    unfold oneOp at h1
    unfold wpOp
    split
    · rename_i ho; simp only [ho] at h1; exact mixT_sound hL f _ _ _ h1.2
    · rename_i o ho
      simp only [ho] at h1
      split
      · rename_i hw; rw [if_pos hw] at h1
        exact Or.inl (wp_of_sOp (sOp_mono (fun a w hk => mixT_sound hL f _ a w hk.2) h1))
      · rename_i hw; rw [if_neg hw] at h1; exact mixT_sound hL f _ _ _ h1.2

theorem mixT_first {n i : Nat} {oi : Oper} {v : Value} {L : Array Bool → Act → World → Prop} (hCl : ∀ k d, ∃ k', bw (Cl k) d = Cl k') (hi : ops[i]? = some oi) (hsel : ∀ (j : Nat) (o : Oper) cs b, ops[j]? = some o → o.op ≠ .select cs b)
    (hs : Region.sinkB md ops n = true) (hc : Region.chainB md ops n = true) (hn : n < ops.size) (hin : i < n) (hdone : ∀ listed a w, L listed a w → ∀ j ∈ Region.ready md ops listed, n ≤ j) :
    ∀ (f : Nat) (listed : Array Bool) (a : Act) (w : World), (∃ k, w = Cl k) → HeadInv md ops n listed →
      (∀ j oj, ops[j]? = some oj → j ≠ i → listed.getD j true = false → (∀ e ∈ oj.after, Region.binds md e = true → e.on ≠ i) → oi.apart ops oj = true) →
      i ∈ Region.ready md ops listed → YieldsM P ops Cl oi v a →
      mixT P md ops Cl n L f (listed.setIfInBounds i true) (a.put oi.dst v) w → mixT P md ops Cl n L (f + 1) listed a w := by
  have cl : ∀ w d, (∃ k, w = Cl k) → ∃ k, bw w d = Cl k := fun w d ⟨k, hk⟩ => by rw [hk]; exact hCl k d
  intro f
  induction f with
  | zero =>
    intro listed a w hw inv _ hr hy H
    have hun := (mem_ready.1 hr).1
    have early : ∀ j ∈ Region.ready md ops listed, j < n := fun j hj =>
      Nat.lt_of_not_le fun hle => tail_waits hs hc hn inv _ i rfl hin hun j hle hj
    refine ⟨List.ne_nil_of_mem hr, fun j hj => ⟨early j hj, fun d => ?_⟩⟩
    by_cases hji : j = i
    · subst hji
      exact hy.oneOp hi (cl w d hw) ⟨cl w d hw, mixT_ext d H⟩ (fun e => ⟨cl _ e (cl w d hw), mixT_ext e (mixT_ext d H)⟩)
    · exact absurd (hdone _ _ _ (H (noExt w)) j (ready_mono hj hji)) (Nat.not_le_of_lt (early j hj))
  | succ f ih =>
    intro listed a w hw inv hfree hr hy H
    have hun := (mem_ready.1 hr).1
    have early : ∀ j ∈ Region.ready md ops listed, j < n := fun j hj =>
      Nat.lt_of_not_le fun hle => tail_waits hs hc hn inv _ i rfl hin hun j hle hj
    refine ⟨List.ne_nil_of_mem hr, fun j hj => ⟨early j hj, fun d => ?_⟩⟩
    by_cases hji : j = i
    · subst hji
      exact hy.oneOp hi (cl w d hw) ⟨cl w d hw, mixT_ext d H⟩ (fun e => ⟨cl _ e (cl w d hw), mixT_ext e (mixT_ext d H)⟩)
    · have h1 := (H.2 j (ready_mono hj hji)).2 d
      obtain ⟨hjun, oj, hoj, hall⟩ := mem_ready.1 hj
      have hnot : ∀ e ∈ oj.after, Region.binds md e = true → e.on ≠ i := fun e he hb heq => by
        have h2 := hall e he hb
        rw [heq, getD_both hun] at h2
        cases h2
      have h2 := oneOp_put hoj (hfree j oj hoj hji hjun hnot) (fun cs b => hsel i oi cs b hi) (fun cs b => hsel j oj cs b hoj) hy h1
      have hfree' : ∀ k ok, ops[k]? = some ok → k ≠ i → (listed.setIfInBounds j true).getD k true = false →
          (∀ e ∈ ok.after, Region.binds md e = true → e.on ≠ i) → oi.apart ops ok = true := fun k ok hk hki hu hno => by
        refine hfree k ok hk hki ?_ hno
        by_cases hjk : j = k
        · subst hjk; exact hjun
        · rw [getD_set_ne true hjk] at hu; exact hu
      refine oneOp_mono (fun a' w' h3 => ⟨h3.2.1, ih (listed.setIfInBounds j true) a' w' h3.2.1 (inv.set hj (early j hj)) hfree' (ready_mono hr (Ne.symm hji)) h3.1 ?_⟩) h2
      rw [Array.setIfInBounds_comm _ _ hji]
      exact h3.2.2

def lexMT (md : Region.Mode) (ops : Array Oper) (n g : Nat) : List Nat → Nat → Array Bool → Bool
  | [], k, listed => decide (k = n) && Region.seqB md ops g k listed
  | 0 :: s, k, listed => decide (k < n) && (Region.ready md ops listed).contains k && Region.free md ops listed k && lexMT md ops n g s (k + 1) (listed.setIfInBounds k true)
  | 1 :: s, k, listed => decide (k < n) && decide (Region.ready md ops listed = [k]) && lexMT md ops n g s (k + 1) (listed.setIfInBounds k true)
  | _, _, _ => false

theorem mixT_of_wpM {n g : Nat} {Lq : Act → World → Prop} (hCl : ∀ k d, ∃ k', bw (Cl k) d = Cl k') (hsel : Region.noSelect ops = true) (hs : Region.sinkB md ops n = true) (hc : Region.chainB md ops n = true) (hn : n < ops.size) :
    ∀ (s : List Nat) (l : List Oper) (k : Nat) (listed : Array Bool) (a : Act) (w : World), (∀ j, j < l.length → l[j]? = ops[k + j]?) → k + l.length = n → HeadInv md ops n listed → (∃ k, w = Cl k) → lexMT md ops n g s k listed = true →
    wpM P ops Cl Lq s l a w → mixT P md ops Cl n (fun listed' a' w' => Region.seqB md ops g n listed' = true ∧ Lq a' w') l.length listed a w
  | [], l, k, listed, a, w, hl, hk, inv, hw, hB, h => by
    simp only [lexMT, Bool.and_eq_true, decide_eq_true_eq] at hB
    obtain ⟨hkn, hB⟩ := hB
    have : l = [] := List.eq_nil_of_length_eq_zero (by omega)
    subst this
    subst hkn
    exact fun d => ⟨hB, h d⟩
  | 0 :: s, l, k, listed, a, w, hl, hk, inv, hw, hB, h => by
    simp only [lexMT, Bool.and_eq_true, decide_eq_true_eq] at hB
    obtain ⟨⟨⟨hkn, hr⟩, hf⟩, hB'⟩ := hB
    cases l with
    | nil => simp at hk; omega
    | cons o l =>
      have h0 : ops[k]? = some o := by simpa using (hl 0 (by simp)).symm
      have hr' : k ∈ Region.ready md ops listed := by simpa using hr
      have hy : ∃ v, YieldsM P ops Cl o v a ∧ wpM P ops Cl Lq s l (a.put o.dst v) w := by
        simp only [wpM] at h
        by_cases hw1 : Region.wanted o (yielded ops a.tmps) = true
        · rw [if_pos hw1] at h
          obtain ⟨v, h1, h2⟩ := h
          exact ⟨v, .inl ⟨hw1, h1⟩, h2⟩
        · rw [if_neg hw1] at h
          exact ⟨undef, .inr ⟨by simpa using hw1, rfl⟩, h⟩
      obtain ⟨v, hy, hK⟩ := hy
      simp only [List.length_cons] at hk
      exact mixT_first hCl h0 (Region.noSelect_spec hsel) hs hc hn hkn (fun _ _ _ hL => seqB_ready hL.1) l.length listed a w hw inv (Region.free_spec h0 hf) hr' hy
        (mixT_of_wpM hCl hsel hs hc hn s l (k + 1) _ _ w (fun j hj => by have := hl (j + 1) (by simp; omega); simpa [Nat.add_assoc, Nat.add_comm 1 j] using this) (by omega) (inv.set hr' hkn) hw hB' hK)
  | 1 :: s, l, k, listed, a, w, hl, hk, inv, hw, hB, h => by
    simp only [lexMT, Bool.and_eq_true, decide_eq_true_eq] at hB
    obtain ⟨⟨hkn, hr⟩, hB'⟩ := hB
    cases l with
    | nil => simp at hk; omega
    | cons o l =>
      have h0 : ops[k]? = some o := by simpa using (hl 0 (by simp)).symm
      simp only [List.length_cons] at hk
      have hl' : ∀ j, j < l.length → l[j]? = ops[k + 1 + j]? := fun j hj => by have := hl (j + 1) (by simp; omega); simpa [Nat.add_assoc, Nat.add_comm 1 j] using this
      have inv' := inv.set (i := k) (by rw [hr]; simp) hkn
      refine ⟨by rw [hr]; simp, fun i hi => ?_⟩
      rw [hr] at hi
      obtain rfl : i = k := by simpa using hi
      refine ⟨hkn, fun d => ?_⟩
      simp only [wpM] at h
      have hd := h d
      rw [oneOp_some h0]
      split
      · rename_i hw1; rw [if_pos hw1] at hd
        exact sOp_mono (fun a' w' hk' => ⟨hk'.1, mixT_of_wpM hCl hsel hs hc hn s l (i + 1) _ _ w' hl' (by omega) inv' hk'.1 hB' hk'.2⟩) hd
      · rename_i hw1; rw [if_neg hw1] at hd
        exact ⟨hd.1, mixT_of_wpM hCl hsel hs hc hn s l (i + 1) _ _ _ hl' (by omega) inv' hd.1 hB' hd.2⟩
  | (_ + 2) :: _, _, _, _, _, _, _, _, _, _, hB, _ => by simp [lexMT] at hB

theorem region_mixT {id : Nat} {Q : Exit → Act → World → Prop} {a : Act} {w : World} {l : List Oper} (n : Nat) (s : List Nat) (hm : P.follows .mixedOrders = true) (hsel : Region.noSelect l.toArray = true)
    (hs : Region.sinkB .any l.toArray n = true) (hc : Region.chainB .any l.toArray n = true) (hn : n < l.toArray.size)
    (hB : lexMT .any l.toArray n (l.toArray.size - n) s 0 (Array.replicate l.toArray.size false) = true)
    (h : wpM P l.toArray (fun d => bw w d) (fun a w => wpList P l.toArray Q (l.drop n) a w) s (l.take n) a w) : (Code.region id l.toArray true).wp P Q a w := by
  have hn' : n < l.length := by simpa using hn
  have htl : (l.take n).length = n := by simp; omega
  have hdl : (l.drop n).length = l.toArray.size - n := by simp
  have inv0 : HeadInv .any l.toArray n (Array.replicate l.toArray.size false) :=
    ⟨by simp, fun j oj _ hl => (by rw [getD_replicate_false] at hl; cases hl), fun t _ ht => getD_in (by simpa using ht) (getD_replicate_false _ _)⟩
  have H := mixT_of_wpM (md := .any) (g := l.toArray.size - n) (fun k d => ⟨_, bw_bw w k d⟩) hsel hs hc hn s (l.take n) 0 _ a w (fun j hj => by
    have hj' : j < n := by rw [htl] at hj; exact hj
    simp [hj']) (by simpa using htl) inv0 ⟨noExt w, (bw_noExt w).symm⟩ hB h
  refine wp_region_any hm ?_
  have := mixT_ext (⟨#[], w.drawn + 1⟩ : Ext) H
  rw [← bw_drewExt] at this
  have := mixT_sound (Q' := Q) (g := l.toArray.size - n) (fun listed a' w' hL => by
    have := wpAny_of_seq (md := .any) (Q' := Q) (l.drop n) n listed a' w' (fun j => by simp [List.getElem?_drop]) (by rw [hdl]; exact hL.1) hL.2
    rwa [hdl] at this) _ _ _ _ this
  rw [htl, show n + (l.toArray.size - n) = l.toArray.size by omega] at this
  exact this
end
/-- As wpList_push, the element lying in a block that was made at some time before. -/
theorem wpList_push2 {P : Program} {ops : Array Oper} {rest : List Oper} {o : Oper} {a : Act} {Q : Exit → Act → World → Prop} (hgd : o.guard = none) (s x : Operand) (t : TypeId)
    (ho : o.op = .call { callee := .builtin .append, args := #[s, x], argTypes := #[t, t] })
    (e : TypeId) (i : TypeInfo) (z : Value) (size bytes : Nat) (ht : P.underlying t = some (.slice e)) (hi : P.info? e = some i) (hz : i.zero = some z)
    (hsize : i.size = size) (hby : i.bytes = bytes) (hzs : z.cells.size = size) (hsz : 0 < size)
    (w0 wb : World) (c : Array Value) (te : TypeId) (xb : Nat) (v : Value) (n : Nat) (xs : List Value) (hw : Below w0.heap.size w0 wb) (hown : wb.ownsRow w0.heap.size e size v n xs)
    (hcell : wb.heap[xb]? = some (.cells c te (0, 0))) (hs : a.eval s = v) (hx : a.eval x = .slice (some ⟨xb, 0, none⟩) 1 1) (hc : c.size = size) (h1 : ∀ u ∈ c.toList, u.oneCell' = true)
    (hn : n + 1 ≤ maxLen) (hb : (n + 1) * bytes ≤ 140737488355328)
    (h : ∀ v' d, (bw w0 d).ownsRow w0.heap.size e size v' (n + 1) (xs ++ c.toList) → wpList P ops Q rest (a.put o.dst v') (bw w0 d)) :
    wpList P ops Q (o :: rest) a wb := by
  refine wpList_append_own _ hgd s x t ho w0.heap.size e i z size bytes ht hi hz hsize hby hzs hsz v n xs hs hown ⟨xb, 0, none⟩ 1 1 c.toList hx (by simp [hc]) (World.news_of_block hcell) h1 hn hb hw.size ?_
  intro v' w' hown' hg _
  obtain ⟨d, hd⟩ := bw_of (w := w0) (w' := w') (hw.grown hg hw.size (fun k hk => (hown.lt k hk).1))
  subst hd
  exact h v' d hown'
theorem row_bw {w : World} {base n size : Nat} {e : TypeId} {v : Value} {xs : List Value} (h : w.ownsRow base e size v n xs) (d : Ext) : (bw w d).ownsRow base e size v n xs :=
  h.kept (row := none) ⟨rfl, rfl, rfl, bw_le w d, fun k hk _ => bw_get w d k hk⟩ (by
    rcases h.2 with ⟨h1, _⟩ | ⟨g, cap, cur, h1, _⟩ <;> rw [h1]
    · exact .inl rfl
    · exact .inr (by simp [Value.ownBlock]))
theorem row_lay {w : World} {base n size : Nat} {e : TypeId} {v : Value} {xs : List Value} (h : w.ownsRow base e size v n xs) (L : List (Obj ⊕ Ext)) : (lay w L).ownsRow base e size v n xs := by
  obtain ⟨d, hd⟩ := lay_ex w L
  rw [hd]; exact row_bw h d
end Go.Proofs.YtejmgdpgngjiiaaGreat
