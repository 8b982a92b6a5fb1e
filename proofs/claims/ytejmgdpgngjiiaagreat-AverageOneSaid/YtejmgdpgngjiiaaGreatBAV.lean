/- Contracts and plain laws, several texts in one: SiP; SiQ; MixB; MixK -/
import Derived.Test.YtejmgdpgngjiiaaGreatProg
import Derived.WalkKit
import Derived.WalkSpells
import Derived.WalkLawsBesides
import Derived.Lib.Hide
import Derived.BigQuiet
import Derived.Maps.AppendAt
import Derived.Test.YtejmgdpgngjiiaaGreatBAA
import Derived.Test.YtejmgdpgngjiiaaGreatBAB
import Derived.Test.YtejmgdpgngjiiaaGreatBAE
import Derived.Test.YtejmgdpgngjiiaaGreatBAO
import Derived.Test.YtejmgdpgngjiiaaGreatBAT
import Derived.Test.YtejmgdpgngjiiaaGreatBAU
/- The average of sights: what average.Sights computes, and its bounds. No walk. -/
namespace Go.Proofs.YtejmgdpgngjiiaaGreat
open Go.RowKit

def getS (l : List SgV) (i : Nat) : SgV := l[i]?.getD default
theorem getS_some {l : List SgV} {i : Nat} (h : i < l.length) : l[i]? = some (getS l i) := by
  unfold getS
  rw [List.getElem?_eq_getElem h]; rfl
theorem fstS_get (l : List SgV) : fstS l = getS l 0 := rfl
/-- Times from the first middle, readings. -/
def tsS (l : List SgV) : List Int := l.map fun s => midI s - midI (fstS l)
def rdS (l : List SgV) : List Int := l.map fun s => s.hs
theorem tsS_len (l : List SgV) : (tsS l).length = l.length := List.length_map _
theorem rdS_len (l : List SgV) : (rdS l).length = l.length := List.length_map _
theorem tsS_nth {l : List SgV} {i : Nat} (h : i < l.length) : nth (tsS l) i = midI (getS l i) - midI (fstS l) := by
  rw [nth_lt (by rw [tsS_len]; exact h)]
  unfold getS tsS
  rw [List.getElem_map, List.getElem?_eq_getElem h]; rfl
theorem rdS_nth {l : List SgV} {i : Nat} (h : i < l.length) : nth (rdS l) i = (getS l i).hs := by
  rw [nth_lt (by rw [rdS_len]; exact h)]
  unfold getS rdS
  rw [List.getElem_map, List.getElem?_eq_getElem h]; rfl
/-- What is summed up. -/
structure AccV where
  n : Int
  ti : Int
  re : Int
  wi : Int
  be : Int
  af : Int
def accS (l : List SgV) (out : List Int) : Nat → AccV
  | 0 => ⟨0, 0, 0, 0, 0, 0⟩
  | k + 1 => if out.contains (k : Int) then accS l out k else
      ⟨(accS l out k).n + 1, (accS l out k).ti + nth (tsS l) k, (accS l out k).re + (getS l k).hs, (accS l out k).wi + (getS l k).wi,
        mx (accS l out k).be (midI (getS l k) - (getS l k).lo), mx (accS l out k).af ((getS l k).hi - midI (getS l k))⟩
/-- Sights that can be averaged. -/
structure SgsOk (l : List SgV) (n d f : Int) : Prop where
  val : ∀ s ∈ l, SgIs s
  l1 : 1 ≤ l.length
  l2 : l.length ≤ 40
  fr : SlOk n d
  sl : -1000 * d ≤ n ∧ n ≤ 1000 * d
  f1 : 1 ≤ f
  f2 : f ≤ 100
  near : ∀ s ∈ l, -86400000 ≤ midI s - midI (fstS l) ∧ midI s - midI (fstS l) ≤ 86400000
theorem gvn_ok {l : List SgV} {n d f : Int} (h : gvnE l n d f = 0) : SgsOk l n d f := by
  unfold gvnE at h
  by_cases c1 : (l.any fun s => !sgB s) = true ∨ fracB n d = false
  · rw [if_pos c1] at h; cases h
  rw [if_neg c1] at h
  by_cases c2 : l.length < 1 ∨ 40 < l.length
  · rw [if_pos c2] at h; cases h
  rw [if_neg c2] at h
  by_cases c3 : slpB n d = false ∨ f < 1 ∨ 100 < f
  · rw [if_pos c3] at h; cases h
  rw [if_neg c3] at h
  by_cases c4 : (l.any fun s => !likB s (fstS l)) = true
  · rw [if_pos c4] at h; cases h
  rw [if_neg c4] at h
  by_cases c5 : (l.any fun s => farS l s) = true
  · rw [if_pos c5] at h; cases h
  have ha : (l.any fun s => !sgB s) = false := by simpa using fun h => c1 (.inl h)
  have hf : fracB n d = true := by simpa using fun h => c1 (.inr h)
  have hs : slpB n d = true := by simpa using fun h => c3 (.inl h)
  have h5 : (l.any fun s => farS l s) = false := by simpa using c5
  refine ⟨fun s hs => sgB_iff.1 (all_of_any ha s hs), by omega, by omega, fracB_ok hf, by unfold slpB at hs; simpa using hs, by omega, by omega, fun s hs => ?_⟩
  have := List.any_eq_false.1 h5 s hs
  unfold farS at this
  simp only [decide_eq_true_eq] at this
  omega
variable {l : List SgV} {n d f : Int}
theorem SgsOk.get (o : SgsOk l n d f) {i : Nat} (h : i < l.length) : SgIs (getS l i) := o.val _ (List.mem_of_getElem? (getS_some h))
theorem SgIs.t {s : SgV} (h : SgIs s) : SgT s := sg_tm (sgB_iff.2 h)
theorem SgsOk.t (o : SgsOk l n d f) {i : Nat} (h : i < l.length) : -86400000 ≤ nth (tsS l) i ∧ nth (tsS l) i ≤ 86400000 := by
  rw [tsS_nth h]; exact o.near _ (List.mem_of_getElem? (getS_some h))
theorem SgsOk.bt (o : SgsOk l n d f) : Bd (tsS l) 172800000 := fun i hi => by
  rw [tsS_len] at hi
  have := o.t hi; omega
theorem SgsOk.bh (o : SgsOk l n d f) : Bd (rdS l) 1099511627776 := fun i hi => by
  rw [rdS_len] at hi
  rw [rdS_nth hi]
  have := (o.get hi).hs; omega
/-- A residual of a slope. -/
theorem slope_bd {t : Int} (hs : SlOk n d) (sl : -1000 * d ≤ n ∧ n ≤ 1000 * d) (ht : -86400000 ≤ t ∧ t ≤ 86400000) : -86400001 ≤ (1000 * d - 2 * n * t) / (2000 * d) ∧ (1000 * d - 2 * n * t) / (2000 * d) ≤ 86400001 := by
  have hd := hs.d1
  have hp : -(2000 * d * 86400000) ≤ 2 * n * t ∧ 2 * n * t ≤ 2000 * d * 86400000 := mul_in (x := 2 * n) (k := t) (2000 * d) 86400000 (by omega) ht (by omega)
  generalize 2 * n * t = P at *
  constructor
  · rw [Int.le_ediv_iff_mul_le (by omega)]
    have : -86400001 * (2000 * d) = -(2000 * d * 86400000) - 2000 * d := by omega
    omega
  · have h2 : (1000 * d - P) / (2000 * d) < 86400002 := by
      rw [Int.ediv_lt_iff_lt_mul (by omega)]
      have : 86400002 * (2000 * d) = 2000 * d * 86400000 + 2 * (2000 * d) := by omega
      omega
    omega
def resS (l : List SgV) (n d : Int) : List Int := resK (tsS l) (rdS l) n d (tsS l).length
theorem resS_len (l : List SgV) (n d : Int) : (resS l n d).length = l.length := by unfold resS; rw [resK_len, tsS_len]
theorem resK_nth (t h : List Int) (n d : Int) {k i : Nat} (hi : i < k) : nth (resK t h n d k) i = resI (nth t i) (nth h i) n d := by
  rw [nth_lt (by rw [resK_len]; exact hi)]
  simp [resK]
theorem SgsOk.res (o : SgsOk l n d f) : Bd (resS l n d) 1099511627776 := fun i hi => by
  rw [resS_len] at hi
  unfold resS
  rw [resK_nth _ _ _ _ (by rw [tsS_len]; exact hi)]
  have h1 := slope_bd o.fr o.sl (o.t hi)
  have h2 := (o.get hi).hs
  rw [rdS_nth hi]
  unfold resI
  omega
def outS (l : List SgV) (n d f : Int) : List Int := outI (resS l n d) f
theorem SgsOk.rej (o : SgsOk l n d f) : rejE (resS l n d) f = 0 := by
  have h1 := o.l1; have h2 := o.l2; have h3 := o.f1; have h4 := o.f2
  unfold rejE
  rw [resS_len, if_neg (by omega), if_neg (by rw [outB_in o.res]; simp; omega)]
/-- Bounds of the sums. -/
structure AccB (a : AccV) (k : Nat) : Prop where
  n0 : 0 ≤ a.n
  n1 : a.n ≤ k
  t0 : -86400000 * (k : Int) ≤ a.ti
  t1 : a.ti ≤ 86400000 * (k : Int)
  r0 : -60000 * (k : Int) ≤ a.re
  r1 : a.re ≤ 7800000 * (k : Int)
  w0 : 0 ≤ a.wi
  w1 : a.wi ≤ 60000 * a.n
  b0 : 0 ≤ a.be
  b1 : a.be ≤ 140737488355328
  a0 : 0 ≤ a.af
  a1 : a.af ≤ 140737488355328
theorem acc_bd (o : SgsOk l n d f) (out : List Int) : ∀ k, k ≤ l.length → AccB (accS l out k) k
  | 0, _ => by constructor <;> simp [accS]
  | k + 1, hk => by
    have h := acc_bd o out k (by omega)
    have ht := o.t (show k < l.length by omega)
    have hv := o.get (show k < l.length by omega)
    have hm := hv.t.mid
    have hT := hv.t
    unfold accS
    by_cases c : out.contains (k : Int) = true
    · rw [if_pos c]
      obtain ⟨n0, n1, t0, t1, r0, r1, w0, w1, b0, b1, a0, a1⟩ := h
      constructor <;> first | assumption | omega
    · rw [if_neg c]
      have h1 := hv.hs; have h2 := hv.wi
      have h3 := hT.lo; have h4 := hT.hi
      obtain ⟨n0, n1, t0, t1, r0, r1, w0, w1, b0, b1, a0, a1⟩ := h
      constructor <;> dsimp only <;> (try rw [mx_eq]) <;> omega
theorem acc_mono (l : List SgV) (out : List Int) : ∀ k j, j ≤ k → (accS l out j).n ≤ (accS l out k).n
  | 0, j, h => by obtain rfl : j = 0 := by omega
                  exact Int.le_refl _
  | k + 1, j, h => by
    by_cases e : j = k + 1
    · subst e; exact Int.le_refl _
    · have := acc_mono l out k j (by omega)
      have h2 : (accS l out k).n ≤ (accS l out (k + 1)).n := by
        conv => rhs; unfold accS
        split
        · exact Int.le_refl _
        · dsimp only; omega
      omega
theorem out_miss (o : SgsOk l n d f) : ∃ i, i < l.length ∧ (outS l n d f).contains (i : Int) = false := by
  have h1 := o.l1
  have hne : resS l n d ≠ [] := by
    intro e
    have := resS_len l n d
    rw [e] at this; simp at this; omega
  have hh := outI_half hne o.f1
  rw [resS_len] at hh
  refine Decidable.byContradiction fun hno => ?_
  have hall : ∀ i, i < l.length → (outS l n d f).contains (i : Int) = true := fun i hi => by
    cases e : (outS l n d f).contains (i : Int)
    · exact absurd ⟨i, hi, e⟩ hno
    · rfl
  have hlen : (outI (resS l n d) f).length = l.length := by
    unfold outI outN
    rw [List.length_map, List.filter_eq_self.2, List.length_range, resS_len]
    intro i hi
    rw [List.mem_range, resS_len] at hi
    have h2 := hall i hi
    unfold outS outI at h2
    rw [List.contains_iff_mem, List.mem_map] at h2
    obtain ⟨j, hj, e⟩ := h2
    have : j = i := Int.ofNat.inj e
    subst this
    exact (List.mem_filter.1 hj).2
  omega
theorem acc_one (o : SgsOk l n d f) : 1 ≤ (accS l (outS l n d f) l.length).n := by
  obtain ⟨i, hi, hc⟩ := out_miss o
  have h1 := acc_mono l (outS l n d f) l.length (i + 1) (by omega)
  have h0 := (acc_bd o (outS l n d f) i (by omega)).n0
  have h2 : (accS l (outS l n d f) (i + 1)).n = (accS l (outS l n d f) i).n + 1 := by
    conv => lhs; unfold accS
    rw [hc]; rfl
  omega
/-- The mean. -/
def atS (a : AccV) : Int := a.ti / a.n
def whS (a : AccV) : Int := a.re / a.n
def rsS (a : AccV) (n d : Int) : Int := 2000 * d * (a.re - whS a * a.n) + 2 * n * (atS a * a.n - a.ti) + 1000 * d * a.n
def menS (l : List SgV) (n d : Int) (a : AccV) : SgV :=
  { fstS l with hs := whS a + rsS a n d / (2000 * d * a.n), wi := -((-2 * a.wi - a.n) / (2 * a.n)), lo := midI (fstS l) + atS a - a.be, hi := midI (fstS l) + atS a + a.af }
end Go.Proofs.YtejmgdpgngjiiaaGreat
/- The mean of sights: bounds of what is reckoned. No walk. -/
namespace Go.Proofs.YtejmgdpgngjiiaaGreat
open Go.RowKit

theorem fl_rest {a n : Int} (hn : 1 ≤ n) : 0 ≤ a - a / n * n ∧ a - a / n * n < n := by
  have h1 := Int.mul_ediv_add_emod a n
  have h2 := Int.emod_nonneg a (show n ≠ 0 by omega)
  have h3 := Int.emod_lt_of_pos a (show 0 < n by omega)
  rw [Int.mul_comm] at h1
  omega
theorem fl_bd {a n B : Int} (hn : 1 ≤ n) (h0 : 0 ≤ B) (h1 : -B ≤ a) (h2 : a ≤ B) : -B ≤ a / n ∧ a / n ≤ B := ediv_bd hn B h0 h1 h2
structure MenB (a : AccV) (n d : Int) : Prop where
  at0 : -3456000000 ≤ atS a ∧ atS a ≤ 3456000000
  wh0 : -312000000 ≤ whS a ∧ whS a ≤ 312000000
  q1 : -400000000000 ≤ whS a * a.n ∧ whS a * a.n ≤ 400000000000
  q2 : -400000000000 ≤ atS a * a.n ∧ atS a * a.n ≤ 400000000000
  u : 0 ≤ a.re - whS a * a.n ∧ a.re - whS a * a.n ≤ 40
  v : -40 ≤ atS a * a.n - a.ti ∧ atS a * a.n - a.ti ≤ 0
  p1 : -85899345920000 ≤ 2000 * d * (a.re - whS a * a.n) ∧ 2000 * d * (a.re - whS a * a.n) ≤ 85899345920000
  p2 : -85899345920 ≤ 2 * n * (atS a * a.n - a.ti) ∧ 2 * n * (atS a * a.n - a.ti) ≤ 85899345920
  p3 : 0 ≤ 1000 * d * a.n ∧ 1000 * d * a.n ≤ 42949672960000
  dd : 1 ≤ 2000 * d * a.n ∧ 2000 * d * a.n ≤ 85899345920000
  fq : -200000000000000 ≤ rsS a n d / (2000 * d * a.n) ∧ rsS a n d / (2000 * d * a.n) ≤ 200000000000000
  wi : -5000000 ≤ (-2 * a.wi - a.n) / (2 * a.n) ∧ (-2 * a.wi - a.n) / (2 * a.n) ≤ 5000000
theorem men_bd {a : AccV} {n d : Int} {k : Nat} (h : AccB a k) (hk : k ≤ 40) (hn : 1 ≤ a.n) (hs : SlOk n d) : MenB a n d := by
  obtain ⟨n0, n1, t0, t1, r0, r1, w0, w1, b0, b1, a0, a1⟩ := h
  obtain ⟨s1, s2, d1, d2⟩ := hs
  have hA := fl_bd (a := a.ti) (B := 3456000000) hn (by decide) (by omega) (by omega)
  have hW := fl_bd (a := a.re) (B := 312000000) hn (by decide) (by omega) (by omega)
  have hU := fl_rest (a := a.re) hn
  have hV := fl_rest (a := a.ti) hn
  have q1 : -400000000000 ≤ whS a * a.n ∧ whS a * a.n ≤ 400000000000 := by unfold whS; omega
  have q2 : -400000000000 ≤ atS a * a.n ∧ atS a * a.n ≤ 400000000000 := by unfold atS; omega
  have u : 0 ≤ a.re - whS a * a.n ∧ a.re - whS a * a.n ≤ 40 := by unfold whS; omega
  have v : -40 ≤ atS a * a.n - a.ti ∧ atS a * a.n - a.ti ≤ 0 := by unfold atS; omega
  have p1 := mul_in (x := 2000 * d) (k := a.re - whS a * a.n) 2147483648000 40 (by omega) (by omega) (by decide)
  have p2 := mul_in (x := 2 * n) (k := atS a * a.n - a.ti) 2147483648 40 (by omega) (by omega) (by decide)
  have p3 := mul_in (x := 1000 * d) (k := a.n) 1073741824000 40 (by omega) (by omega) (by decide)
  have p4 := mul_in (x := 2000 * d) (k := a.n) 2147483648000 40 (by omega) (by omega) (by decide)
  have d0 : 1 ≤ 2000 * d * a.n := by
    have : 1 * 1 ≤ 2000 * d * a.n := Int.mul_le_mul (by omega) hn (by decide) (by omega)
    omega
  have d3 : 0 ≤ 1000 * d * a.n := Int.mul_nonneg (by omega) (by omega)
  refine ⟨hA, hW, q1, q2, u, v, by omega, by omega, by omega, by omega, ?_, ?_⟩
  · refine fl_bd d0 (by decide) ?_ ?_ <;> (unfold rsS; omega)
  · exact fl_bd (by omega) (by decide) (by omega) (by omega)
end Go.Proofs.YtejmgdpgngjiiaaGreat
/- Regions that draw their order, by a schedule that may branch in two: where two operations that make memory are ready, each may come first. No program in sight. -/
namespace Go.Proofs.YtejmgdpgngjiiaaGreat
open Go.RowKit

inductive Sch where
  | done : Sch
  | q : Nat → Sch → Sch
  | one : Nat → Sch → Sch
  | two : Nat → Sch → Nat → Sch → Sch
section
variable {P : Program} {md : Region.Mode} {κ : Type} {Cl : κ → World} {l : List Oper} {ops : Array Oper}

def spB (P : Program) (l : List Oper) (ops : Array Oper) (Cl : κ → World) (i : Nat) (X : Act → World → Prop) (a : Act) (w : World) : Prop :=
  ∃ o, l[i]? = some o ∧ ∀ d, (if Region.wanted o (yielded ops a.tmps) then sOp P o a (fun a' w' => (∃ k, w' = Cl k) ∧ X a' w') (bw w d) else (∃ k, bw w d = Cl k) ∧ X (a.put o.dst undef) (bw w d))
def wpMB (P : Program) (l : List Oper) (ops : Array Oper) (Cl : κ → World) (Q : Act → World → Prop) : Sch → Act → World → Prop
  | .done, a, w => ∀ d, Q a (bw w d)
  | .q i s, a, w => ∃ o, l[i]? = some o ∧ (if Region.wanted o (yielded ops a.tmps) then mOp P Cl o a (fun a' => wpMB P l ops Cl Q s a' w) else wpMB P l ops Cl Q s (a.put o.dst undef) w)
  | .one i s, a, w => spB P l ops Cl i (wpMB P l ops Cl Q s) a w
  | .two i s j t, a, w => spB P l ops Cl i (wpMB P l ops Cl Q s) a w ∧ spB P l ops Cl j (wpMB P l ops Cl Q t) a w
def lexMB (md : Region.Mode) (ops : Array Oper) (n g : Nat) : Nat → Sch → Array Bool → Bool
  | 0, .done, listed => Region.seqB md ops g n listed
  | f + 1, .q i s, listed => decide (i < n) && (Region.ready md ops listed).contains i && Region.free md ops listed i && lexMB md ops n g f s (listed.setIfInBounds i true)
  | f + 1, .one i s, listed => decide (i < n) && decide (Region.ready md ops listed = [i]) && lexMB md ops n g f s (listed.setIfInBounds i true)
  | f + 1, .two i s j t, listed => decide (i < n) && decide (j < n) && decide (Region.ready md ops listed = [i, j]) && lexMB md ops n g f s (listed.setIfInBounds i true) && lexMB md ops n g f t (listed.setIfInBounds j true)
  | _, _, _ => false

theorem mixT_of_wpMB {n g : Nat} {Lq : Act → World → Prop} (hCl : ∀ k d, ∃ k', bw (Cl k) d = Cl k') (hl : ∀ j : Nat, l[j]? = ops[j]?) (hsel : Region.noSelect ops = true) (hs : Region.sinkB md ops n = true) (hc : Region.chainB md ops n = true) (hn : n < ops.size) :
    ∀ (f : Nat) (s : Sch) (listed : Array Bool) (a : Act) (w : World), HeadInv md ops n listed → (∃ k, w = Cl k) → lexMB md ops n g f s listed = true →
    wpMB P l ops Cl Lq s a w → mixT P md ops Cl n (fun listed' a' w' => Region.seqB md ops g n listed' = true ∧ Lq a' w') f listed a w
  | 0, .done, listed, a, w, inv, hw, hB, h => fun d => ⟨hB, h d⟩
  | f + 1, .q k s, listed, a, w, inv, hw, hB, h => by
    simp only [lexMB, Bool.and_eq_true, decide_eq_true_eq] at hB
    obtain ⟨⟨⟨hkn, hr⟩, hf⟩, hB'⟩ := hB
    obtain ⟨o, ho, h⟩ := h
    have h0 : ops[k]? = some o := (hl k).symm.trans ho
    have hr' : k ∈ Region.ready md ops listed := by simpa using hr
    have hy : ∃ v, YieldsM P ops Cl o v a ∧ wpMB P l ops Cl Lq s (a.put o.dst v) w := by
      by_cases hw1 : Region.wanted o (yielded ops a.tmps) = true
      · rw [if_pos hw1] at h
        obtain ⟨v, h1, h2⟩ := h
        exact ⟨v, .inl ⟨hw1, h1⟩, h2⟩
      · rw [if_neg hw1] at h
        exact ⟨undef, .inr ⟨by simpa using hw1, rfl⟩, h⟩
    obtain ⟨v, hy, hK⟩ := hy
    exact mixT_first hCl h0 (Region.noSelect_spec hsel) hs hc hn hkn (fun _ _ _ hL => seqB_ready hL.1) f listed a w hw inv (Region.free_spec h0 hf) hr' hy
      (mixT_of_wpMB hCl hl hsel hs hc hn f s _ _ w (inv.set hr' hkn) hw hB' hK)
  | f + 1, .one k s, listed, a, w, inv, hw, hB, h => by
    simp only [lexMB, Bool.and_eq_true, decide_eq_true_eq] at hB
    obtain ⟨⟨hkn, hr⟩, hB'⟩ := hB
    obtain ⟨o, ho, h⟩ := h
    have h0 : ops[k]? = some o := (hl k).symm.trans ho
    have inv' := inv.set (i := k) (by rw [hr]; simp) hkn
    refine ⟨by rw [hr]; simp, fun i hi => ?_⟩
    rw [hr] at hi
    obtain rfl : i = k := by simpa using hi
    refine ⟨hkn, fun d => ?_⟩
    have hd := h d
    rw [oneOp_some h0]
    split
    · rename_i hw1; rw [if_pos hw1] at hd
      exact sOp_mono (fun a' w' hk' => ⟨hk'.1, mixT_of_wpMB hCl hl hsel hs hc hn f s _ _ w' inv' hk'.1 hB' hk'.2⟩) hd
    · rename_i hw1; rw [if_neg hw1] at hd
      exact ⟨hd.1, mixT_of_wpMB hCl hl hsel hs hc hn f s _ _ _ inv' hd.1 hB' hd.2⟩
  | f + 1, .two k s j t, listed, a, w, inv, hw, hB, h => by
    simp only [lexMB, Bool.and_eq_true, decide_eq_true_eq] at hB
    obtain ⟨⟨⟨⟨hkn, hjn⟩, hr⟩, hB1⟩, hB2⟩ := hB
    obtain ⟨⟨o1, ho1, h1⟩, o2, ho2, h2⟩ := h
    have e1 : ops[k]? = some o1 := (hl k).symm.trans ho1
    have e2 : ops[j]? = some o2 := (hl j).symm.trans ho2
    have inv1 := inv.set (i := k) (by rw [hr]; simp) hkn
    have inv2 := inv.set (i := j) (by rw [hr]; simp) hjn
    refine ⟨by rw [hr]; simp, fun i hi => ?_⟩
    rw [hr] at hi
    have hi' : i = k ∨ i = j := by simpa using hi
    rcases hi' with rfl | rfl
    · refine ⟨hkn, fun d => ?_⟩
      have hd := h1 d
      rw [oneOp_some e1]
      split
      · rename_i hw1; rw [if_pos hw1] at hd
        exact sOp_mono (fun a' w' hk' => ⟨hk'.1, mixT_of_wpMB hCl hl hsel hs hc hn f s _ _ w' inv1 hk'.1 hB1 hk'.2⟩) hd
      · rename_i hw1; rw [if_neg hw1] at hd
        exact ⟨hd.1, mixT_of_wpMB hCl hl hsel hs hc hn f s _ _ _ inv1 hd.1 hB1 hd.2⟩
    · refine ⟨hjn, fun d => ?_⟩
      have hd := h2 d
      rw [oneOp_some e2]
      split
      · rename_i hw1; rw [if_pos hw1] at hd
        exact sOp_mono (fun a' w' hk' => ⟨hk'.1, mixT_of_wpMB hCl hl hsel hs hc hn f t _ _ w' inv2 hk'.1 hB2 hk'.2⟩) hd
      · rename_i hw1; rw [if_neg hw1] at hd
        exact ⟨hd.1, mixT_of_wpMB hCl hl hsel hs hc hn f t _ _ _ inv2 hd.1 hB2 hd.2⟩
  | 0, .q _ _, _, _, _, _, _, hB, _ => by simp [lexMB] at hB
  | 0, .one _ _, _, _, _, _, _, hB, _ => by simp [lexMB] at hB
  | 0, .two _ _ _ _, _, _, _, _, _, hB, _ => by simp [lexMB] at hB
  | _ + 1, .done, _, _, _, _, _, hB, _ => by simp [lexMB] at hB

theorem region_mixB {id : Nat} {Q : Exit → Act → World → Prop} {a : Act} {w : World} {l : List Oper} (n : Nat) (s : Sch) (hm : P.follows .mixedOrders = true) (hsel : Region.noSelect l.toArray = true)
    (hs : Region.sinkB .any l.toArray n = true) (hc : Region.chainB .any l.toArray n = true) (hn : n < l.toArray.size)
    (hB : lexMB .any l.toArray n (l.toArray.size - n) n s (Array.replicate l.toArray.size false) = true)
    (h : wpMB P l l.toArray (fun d => bw w d) (fun a w => wpList P l.toArray Q (l.drop n) a w) s a w) : (Code.region id l.toArray true).wp P Q a w := by
  have hdl : (l.drop n).length = l.toArray.size - n := by simp
  have inv0 : HeadInv .any l.toArray n (Array.replicate l.toArray.size false) :=
    ⟨by simp, fun j oj _ hl => (by rw [getD_replicate_false] at hl; cases hl), fun t _ ht => getD_in (by simpa using ht) (getD_replicate_false _ _)⟩
  have H := mixT_of_wpMB (md := .any) (g := l.toArray.size - n) (fun k d => ⟨_, bw_bw w k d⟩) (fun j => by simp) hsel hs hc hn n s _ a w inv0 ⟨noExt w, (bw_noExt w).symm⟩ hB h
  refine wp_region_any hm ?_
  have := mixT_ext (⟨#[], w.drawn + 1⟩ : Ext) H
  rw [← bw_drewExt] at this
  have := mixT_sound (Q' := Q) (g := l.toArray.size - n) (fun listed a' w' hL => by
    have := wpAny_of_seq (md := .any) (Q' := Q) (l.drop n) n listed a' w' (fun j => by simp [List.getElem?_drop]) (by rw [hdl]; exact hL.1) hL.2
    rwa [hdl] at this) _ _ _ _ this
  rw [show n + (l.toArray.size - n) = l.toArray.size by omega] at this
  exact this
theorem wpMB_quiet {Q : Act → World → Prop} {a : Act} {w : World} {i : Nat} {o : Oper} {s : Sch} (ho : l[i]? = some o)
    (h : ∀ K : Act → Prop, (∀ a, wpMB P l ops Cl Q s a w → K a) → if Region.wanted o (yielded ops a.tmps) then mOp P Cl o a K else K (a.put o.dst undef)) : wpMB P l ops Cl Q (.q i s) a w :=
  ⟨o, ho, h _ (fun _ h => h)⟩
theorem spB_of {X : Act → World → Prop} {a : Act} {w : World} {i : Nat} {o : Oper} (ho : l[i]? = some o)
    (h : ∀ (K : Act → World → Prop), (∀ a' w', (∃ k, w' = Cl k) → X a' w' → K a' w') → ∀ d, if Region.wanted o (yielded ops a.tmps) then sOp P o a K (bw w d) else K (a.put o.dst undef) (bw w d)) : spB P l ops Cl i X a w :=
  ⟨o, ho, fun d => by
    have := h (fun a' w' => (∃ k, w' = Cl k) ∧ X a' w') (fun _ _ h1 h2 => ⟨h1, h2⟩) d
    split
    · rename_i hw; rw [if_pos hw] at this; exact this
    · rename_i hw; rw [if_neg hw] at this; exact this⟩
theorem wpMB_one {Q : Act → World → Prop} {a : Act} {w : World} {i : Nat} {s : Sch} (h : spB P l ops Cl i (wpMB P l ops Cl Q s) a w) : wpMB P l ops Cl Q (.one i s) a w := h
theorem wpMB_two {Q : Act → World → Prop} {a : Act} {w : World} {i j : Nat} {s t : Sch} (h1 : spB P l ops Cl i (wpMB P l ops Cl Q s) a w) (h2 : spB P l ops Cl j (wpMB P l ops Cl Q t) a w) : wpMB P l ops Cl Q (.two i s j t) a w := ⟨h1, h2⟩
theorem wpMB_done {Q : Act → World → Prop} {a : Act} {w : World} (h : ∀ d, Q a (bw w d)) : wpMB P l ops Cl Q .done a w := h
end
end Go.Proofs.YtejmgdpgngjiiaaGreat
/- Regions that draw their order, by a branching schedule over a class of worlds of one's own; an append of an int at such a step, beside other rows. -/
namespace Go.Proofs.YtejmgdpgngjiiaaGreat
open Go.RowKit

/-- What lies behind a world and keeps one block: a class of worlds. -/
structure KE (W : World) (P : Nat) (O : Obj) where
  d : Ext
  h : (bw W d).heap[P]? = some O
theorem region_mixK {P : Program} {κ : Type} {id : Nat} {Q : Exit → Act → World → Prop} {a : Act} {w : World} {l : List Oper} (Cl : κ → World) (hCl : ∀ k d, ∃ k', bw (Cl k) d = Cl k') (hw : ∃ k, w = Cl k)
    (n : Nat) (s : Sch) (hm : P.follows .mixedOrders = true) (hsel : Region.noSelect l.toArray = true)
    (hs : Region.sinkB .any l.toArray n = true) (hc : Region.chainB .any l.toArray n = true) (hn : n < l.toArray.size)
    (hB : lexMB .any l.toArray n (l.toArray.size - n) n s (Array.replicate l.toArray.size false) = true)
    (h : wpMB P l l.toArray Cl (fun a w => wpList P l.toArray Q (l.drop n) a w) s a w) : (Code.region id l.toArray true).wp P Q a w := by
  have hdl : (l.drop n).length = l.toArray.size - n := by simp
  have inv0 : HeadInv .any l.toArray n (Array.replicate l.toArray.size false) :=
    ⟨by simp, fun j oj _ hl => (by rw [getD_replicate_false] at hl; cases hl), fun t _ ht => getD_in (by simpa using ht) (getD_replicate_false _ _)⟩
  have H := mixT_of_wpMB (md := .any) (g := l.toArray.size - n) hCl (fun j => by simp) hsel hs hc hn n s _ a w inv0 hw hB h
  refine wp_region_any hm ?_
  have := mixT_ext (⟨#[], w.drawn + 1⟩ : Ext) H
  rw [← bw_drewExt] at this
  have := mixT_sound (Q' := Q) (g := l.toArray.size - n) (fun listed a' w' hL => by
    have := wpAny_of_seq (md := .any) (Q' := Q) (l.drop n) n listed a' w' (fun j => by simp [List.getElem?_drop]) (by rw [hdl]; exact hL.1) hL.2
    rwa [hdl] at this) _ _ _ _ this
  rw [show n + (l.toArray.size - n) = l.toArray.size by omega] at this
  exact this
theorem sop_intO {ops : Array Oper} {o : Oper} {a : Act} {K : Act → World → Prop} {E : Prop} (hgd : o.guard = none) (s x : Operand)
    (ho : o.op = .call { callee := .builtin .append, args := #[s, x], argTypes := #[22, 22] })
    (W0 wb : World) (c : Int) (te : TypeId) (xb : Nat) (v : Value) (l : List Int) (us : List (Value × List Int)) (hw : Below W0.heap.size W0 wb) (hown : Ow wb W0.heap.size v l)
    (hother : ∀ u ∈ us, Ow wb W0.heap.size u.1 u.2 ∧ Aprt v u.1)
    (hcell : wb.heap[xb]? = some (.cells #[.int .i64 c] te (0, 0))) (hs : a.eval s = v) (hx : a.eval x = .slice (some ⟨xb, 0, none⟩) 1 1)
    (hn : l.length ≤ 1000000000) (hc : (Lit.int .i64 c).wf = true)
    (h : ∀ v' d, Ow (Go.Proofs.YtejmgdpgngjiiaaGreat.bw W0 d) W0.heap.size v' (l ++ [c]) → (∀ u ∈ us, Ow (Go.Proofs.YtejmgdpgngjiiaaGreat.bw W0 d) W0.heap.size u.1 u.2 ∧ Aprt v' u.1) → (∀ k, k < wb.heap.size → v.ownBlock ≠ some k → (Go.Proofs.YtejmgdpgngjiiaaGreat.bw W0 d).heap[k]? = wb.heap[k]?) → K (a.put o.dst v') (Go.Proofs.YtejmgdpgngjiiaaGreat.bw W0 d)) :
    if Region.wanted o (yielded ops a.tmps) = true then sOp Tryz.prog o a K wb else E := by
  have hwn : Region.wanted o (yielded ops a.tmps) = true := by simp [Region.wanted, hgd]
  rw [if_pos hwn]
  obtain ⟨i, hi, hz0, hz1, hz2⟩ := info_parts info_intS
  have hM : maxLen = 9223372036854775807 := by decide
  obtain ⟨v', w', hr, hown', hg, _, hat⟩ := run_append_own_at (P := Tryz.prog) (w := wb) W0.heap.size 22 o.type 3 i (.int .i64 0) 1 8 Tryz.underlying22 hi hz0 hz1 hz2 rfl (by decide) v l.length (l.map (Value.int .i64)) hown.1 ⟨xb, 0, none⟩ 1 1 [.int .i64 c] rfl (World.news_of_block (cs := #[.int .i64 c]) hcell) (by simp [Value.oneCell']) (by omega) (by omega) hw.size
  obtain ⟨d, hd⟩ := bw_of (w := W0) (w' := w') (hw.grown hg hw.size (fun k hk => (hown.1.lt k hk).1))
  subst hd
  unfold sOp execOp
  simp only [ho, resolve, invoke, builtin, Sem.run_bind, Sem.run_pure, Result.andThen_ok, List.map_toArray, List.map_cons, List.map_nil, hs, hx, hr]
  refine h v' d ⟨by simpa using hown', ow_append hown.2 hc⟩ (fun u hu => ?_) (fun k hk hne => hg.block k hk (fun e => hne e.symm))
  obtain ⟨ho1, hap⟩ := hother u hu
  refine ⟨ow_kept2 ho1 (fun k hk hne => hg.block k hk (fun e => hne e.symm)) hap.symm, fun k hk hu => ?_⟩
  rcases hat with hat | hat
  · exact hap k (hat.symm.trans hk) hu
  · rw [hat] at hk
    have hkk : wb.heap.size = k := by simpa using hk
    have := (ho1.1.lt _ hu).2; omega
theorem spB_intO {κ : Type} {Cl : κ → World} {l : List Oper} {ops : Array Oper} {i : Nat} {X : Act → World → Prop} {a : Act} {W0 wb : World} {o : Oper} (hi : l[i]? = some o) (hgd : o.guard = none) (s x : Operand)
    (ho : o.op = .call { callee := .builtin .append, args := #[s, x], argTypes := #[22, 22] }) (c : Int) (te : TypeId) (xb : Nat) (v : Value) (ls : List Int) (us : List (Value × List Int)) (hw : Below W0.heap.size W0 wb) (hown : Ow wb W0.heap.size v ls)
    (hother : ∀ u ∈ us, Ow wb W0.heap.size u.1 u.2 ∧ Aprt v u.1)
    (hcell : wb.heap[xb]? = some (.cells #[.int .i64 c] te (0, 0))) (hs : a.eval s = v) (hx : a.eval x = .slice (some ⟨xb, 0, none⟩) 1 1) (hn : ls.length ≤ 1000000000) (hc : (Lit.int .i64 c).wf = true)
    (hin : ∀ d, (∀ k, k < wb.heap.size → v.ownBlock ≠ some k → (Go.Proofs.YtejmgdpgngjiiaaGreat.bw W0 d).heap[k]? = wb.heap[k]?) → ∃ k, Go.Proofs.YtejmgdpgngjiiaaGreat.bw W0 d = Cl k)
    (h : ∀ v' d, Ow (Go.Proofs.YtejmgdpgngjiiaaGreat.bw W0 d) W0.heap.size v' (ls ++ [c]) → (∀ u ∈ us, Ow (Go.Proofs.YtejmgdpgngjiiaaGreat.bw W0 d) W0.heap.size u.1 u.2 ∧ Aprt v' u.1) → (∀ k, k < wb.heap.size → v.ownBlock ≠ some k → (Go.Proofs.YtejmgdpgngjiiaaGreat.bw W0 d).heap[k]? = wb.heap[k]?) → X (a.put o.dst v') (Go.Proofs.YtejmgdpgngjiiaaGreat.bw W0 d)) :
    spB Tryz.prog l ops Cl i X a wb :=
  spB_of hi fun _ hK d => sop_intO hgd s x ho W0 (Go.Proofs.YtejmgdpgngjiiaaGreat.bw wb d) c te xb v ls us (below_bw hw hw.size) (hown.bw d) (fun u hu => ⟨(hother u hu).1.bw d, (hother u hu).2⟩) ((bw_get wb d xb (Array.getElem?_eq_some_iff.1 hcell).1).trans hcell) hs hx hn hc
    fun v' d' h1 h2 h3 => by
      have hk : ∀ k, k < wb.heap.size → v.ownBlock ≠ some k → (Go.Proofs.YtejmgdpgngjiiaaGreat.bw W0 d').heap[k]? = wb.heap[k]? := fun k hk hne => (h3 k (Nat.lt_of_lt_of_le hk (bw_le _ _)) hne).trans (bw_get wb d k hk)
      exact hK _ _ (hin d' hk) (h v' d' h1 h2 hk)
end Go.Proofs.YtejmgdpgngjiiaaGreat
