/- Contracts and plain laws, several texts in one: SiP; SiQ; Rg1 -/
import Derived.Test.YtmomoeagnkjbiaaGreatProg
import Derived.WalkKit
import Derived.WalkSpells
import Derived.WalkLawsBesides
import Derived.Lib.Hide
import Derived.BigQuiet
import Derived.Test.YtmomoeagnkjbiaaGreatCAA
import Derived.Test.YtmomoeagnkjbiaaGreatCAB
import Derived.Test.YtmomoeagnkjbiaaGreatCAD
import Derived.Test.YtmomoeagnkjbiaaGreatCAI
import Derived.Test.YtmomoeagnkjbiaaGreatCAN
import Derived.Test.YtmomoeagnkjbiaaGreatCAO
/- The average of sights: what average.Sights computes, and its bounds. No walk. -/
namespace Go.Proofs.YtmomoeagnkjbiaaGreat
open Go.RowKit

def getS (l : List SgV) (i : Nat) : SgV := l[i]?.getD default
theorem getS_some {l : List SgV} {i : Nat} (h : i < l.length) : l[i]? = some (getS l i) := by
  unfold getS
  rw [List.getElem?_eq_getElem h]; rfl
theorem fstS_get (l : List SgV) : fstS l = getS l 0 := rfl
/-- Times from the first middle, readings. -/
def tsS (l : List SgV) : List Int := l.map fun s => midI s - midI (fstS l)
def rdS (l : List SgV) : List Int := l.map fun s => s.hs
theorem tsS_len (l : List SgV) : (tsS l).length = l.length := List.length_map _
theorem rdS_len (l : List SgV) : (rdS l).length = l.length := List.length_map _
theorem tsS_nth {l : List SgV} {i : Nat} (h : i < l.length) : nth (tsS l) i = midI (getS l i) - midI (fstS l) := by
  rw [nth_lt (by rw [tsS_len]; exact h)]
  unfold getS tsS
  rw [List.getElem_map, List.getElem?_eq_getElem h]; rfl
theorem rdS_nth {l : List SgV} {i : Nat} (h : i < l.length) : nth (rdS l) i = (getS l i).hs := by
  rw [nth_lt (by rw [rdS_len]; exact h)]
  unfold getS rdS
  rw [List.getElem_map, List.getElem?_eq_getElem h]; rfl
/-- What is summed up. -/
structure AccV where
  n : Int
  ti : Int
  re : Int
  wi : Int
  be : Int
  af : Int
def accS (l : List SgV) (out : List Int) : Nat → AccV
  | 0 => ⟨0, 0, 0, 0, 0, 0⟩
  | k + 1 => if out.contains (k : Int) then accS l out k else
      ⟨(accS l out k).n + 1, (accS l out k).ti + nth (tsS l) k, (accS l out k).re + (getS l k).hs, (accS l out k).wi + (getS l k).wi,
        mx (accS l out k).be (midI (getS l k) - (getS l k).lo), mx (accS l out k).af ((getS l k).hi - midI (getS l k))⟩
/-- Sights that can be averaged. -/
structure SgsOk (l : List SgV) (n d f : Int) : Prop where
  val : ∀ s ∈ l, SgIs s
  l1 : 1 ≤ l.length
  l2 : l.length ≤ 40
  fr : SlOk n d
  sl : -1000 * d ≤ n ∧ n ≤ 1000 * d
  f1 : 1 ≤ f
  f2 : f ≤ 100
  near : ∀ s ∈ l, -86400000 ≤ midI s - midI (fstS l) ∧ midI s - midI (fstS l) ≤ 86400000
theorem gvn_ok {l : List SgV} {n d f : Int} (h : gvnE l n d f = 0) : SgsOk l n d f := by
  unfold gvnE at h
  by_cases c1 : (l.any fun s => !sgB s) = true ∨ fracB n d = false
  · rw [if_pos c1] at h; cases h
  rw [if_neg c1] at h
  by_cases c2 : l.length < 1 ∨ 40 < l.length
  · rw [if_pos c2] at h; cases h
  rw [if_neg c2] at h
  by_cases c3 : slpB n d = false ∨ f < 1 ∨ 100 < f
  · rw [if_pos c3] at h; cases h
  rw [if_neg c3] at h
  by_cases c4 : (l.any fun s => !likB s (fstS l)) = true
  · rw [if_pos c4] at h; cases h
  rw [if_neg c4] at h
  by_cases c5 : (l.any fun s => farS l s) = true
  · rw [if_pos c5] at h; cases h
  have ha : (l.any fun s => !sgB s) = false := by simpa using fun h => c1 (.inl h)
  have hf : fracB n d = true := by simpa using fun h => c1 (.inr h)
  have hs : slpB n d = true := by simpa using fun h => c3 (.inl h)
  have h5 : (l.any fun s => farS l s) = false := by simpa using c5
  refine ⟨fun s hs => sgB_iff.1 (all_of_any ha s hs), by omega, by omega, fracB_ok hf, by unfold slpB at hs; simpa using hs, by omega, by omega, fun s hs => ?_⟩
  have := List.any_eq_false.1 h5 s hs
  unfold farS at this
  simp only [decide_eq_true_eq] at this
  omega
variable {l : List SgV} {n d f : Int}
theorem SgsOk.get (o : SgsOk l n d f) {i : Nat} (h : i < l.length) : SgIs (getS l i) := o.val _ (List.mem_of_getElem? (getS_some h))
theorem SgIs.t {s : SgV} (h : SgIs s) : SgT s := sg_tm (sgB_iff.2 h)
theorem SgsOk.t (o : SgsOk l n d f) {i : Nat} (h : i < l.length) : -86400000 ≤ nth (tsS l) i ∧ nth (tsS l) i ≤ 86400000 := by
  rw [tsS_nth h]; exact o.near _ (List.mem_of_getElem? (getS_some h))
theorem SgsOk.bt (o : SgsOk l n d f) : Bd (tsS l) 172800000 := fun i hi => by
  rw [tsS_len] at hi
  have := o.t hi; omega
theorem SgsOk.bh (o : SgsOk l n d f) : Bd (rdS l) 1099511627776 := fun i hi => by
  rw [rdS_len] at hi
  rw [rdS_nth hi]
  have := (o.get hi).hs; omega
/-- A residual of a slope. -/
theorem slope_bd {t : Int} (hs : SlOk n d) (sl : -1000 * d ≤ n ∧ n ≤ 1000 * d) (ht : -86400000 ≤ t ∧ t ≤ 86400000) : -86400001 ≤ (1000 * d - 2 * n * t) / (2000 * d) ∧ (1000 * d - 2 * n * t) / (2000 * d) ≤ 86400001 := by
  have hd := hs.d1
  have hp : -(2000 * d * 86400000) ≤ 2 * n * t ∧ 2 * n * t ≤ 2000 * d * 86400000 := mul_in (x := 2 * n) (k := t) (2000 * d) 86400000 (by omega) ht (by omega)
  generalize 2 * n * t = P at *
  constructor
  · rw [Int.le_ediv_iff_mul_le (by omega)]
    have : -86400001 * (2000 * d) = -(2000 * d * 86400000) - 2000 * d := by omega
    omega
  · have h2 : (1000 * d - P) / (2000 * d) < 86400002 := by
      rw [Int.ediv_lt_iff_lt_mul (by omega)]
      have : 86400002 * (2000 * d) = 2000 * d * 86400000 + 2 * (2000 * d) := by omega
      omega
    omega
def resS (l : List SgV) (n d : Int) : List Int := resK (tsS l) (rdS l) n d (tsS l).length
theorem resS_len (l : List SgV) (n d : Int) : (resS l n d).length = l.length := by unfold resS; rw [resK_len, tsS_len]
theorem resK_nth (t h : List Int) (n d : Int) {k i : Nat} (hi : i < k) : nth (resK t h n d k) i = resI (nth t i) (nth h i) n d := by
  rw [nth_lt (by rw [resK_len]; exact hi)]
  simp [resK]
theorem SgsOk.res (o : SgsOk l n d f) : Bd (resS l n d) 1099511627776 := fun i hi => by
  rw [resS_len] at hi
  unfold resS
  rw [resK_nth _ _ _ _ (by rw [tsS_len]; exact hi)]
  have h1 := slope_bd o.fr o.sl (o.t hi)
  have h2 := (o.get hi).hs
  rw [rdS_nth hi]
  unfold resI
  omega
def outS (l : List SgV) (n d f : Int) : List Int := outI (resS l n d) f
theorem SgsOk.rej (o : SgsOk l n d f) : rejE (resS l n d) f = 0 := by
  have h1 := o.l1; have h2 := o.l2; have h3 := o.f1; have h4 := o.f2
  unfold rejE
  rw [resS_len, if_neg (by omega), if_neg (by rw [outB_in o.res]; simp; omega)]
/-- Bounds of the sums. -/
structure AccB (a : AccV) (k : Nat) : Prop where
  n0 : 0 ≤ a.n
  n1 : a.n ≤ k
  t0 : -86400000 * (k : Int) ≤ a.ti
  t1 : a.ti ≤ 86400000 * (k : Int)
  r0 : -60000 * (k : Int) ≤ a.re
  r1 : a.re ≤ 7800000 * (k : Int)
  w0 : 0 ≤ a.wi
  w1 : a.wi ≤ 60000 * a.n
  b0 : 0 ≤ a.be
  b1 : a.be ≤ 140737488355328
  a0 : 0 ≤ a.af
  a1 : a.af ≤ 140737488355328
theorem acc_bd (o : SgsOk l n d f) (out : List Int) : ∀ k, k ≤ l.length → AccB (accS l out k) k
  | 0, _ => by constructor <;> simp [accS]
  | k + 1, hk => by
    have h := acc_bd o out k (by omega)
    have ht := o.t (show k < l.length by omega)
    have hv := o.get (show k < l.length by omega)
    have hm := hv.t.mid
    have hT := hv.t
    unfold accS
    by_cases c : out.contains (k : Int) = true
    · rw [if_pos c]
      obtain ⟨n0, n1, t0, t1, r0, r1, w0, w1, b0, b1, a0, a1⟩ := h
      constructor <;> first | assumption | omega
    · rw [if_neg c]
      have h1 := hv.hs; have h2 := hv.wi
      have h3 := hT.lo; have h4 := hT.hi
      obtain ⟨n0, n1, t0, t1, r0, r1, w0, w1, b0, b1, a0, a1⟩ := h
      constructor <;> dsimp only <;> (try rw [mx_eq]) <;> omega
theorem acc_mono (l : List SgV) (out : List Int) : ∀ k j, j ≤ k → (accS l out j).n ≤ (accS l out k).n
  | 0, j, h => by obtain rfl : j = 0 := by omega
                  exact Int.le_refl _
  | k + 1, j, h => by
    by_cases e : j = k + 1
    · subst e; exact Int.le_refl _
    · have := acc_mono l out k j (by omega)
      have h2 : (accS l out k).n ≤ (accS l out (k + 1)).n := by
        conv => rhs; unfold accS
        split
        · exact Int.le_refl _
        · dsimp only; omega
      omega
theorem out_miss (o : SgsOk l n d f) : ∃ i, i < l.length ∧ (outS l n d f).contains (i : Int) = false := by
  have h1 := o.l1
  have hne : resS l n d ≠ [] := by
    intro e
    have := resS_len l n d
    rw [e] at this; simp at this; omega
  have hh := outI_half hne o.f1
  rw [resS_len] at hh
  refine Decidable.byContradiction fun hno => ?_
  have hall : ∀ i, i < l.length → (outS l n d f).contains (i : Int) = true := fun i hi => by
    cases e : (outS l n d f).contains (i : Int)
    · exact absurd ⟨i, hi, e⟩ hno
    · rfl
  have hlen : (outI (resS l n d) f).length = l.length := by
    unfold outI outN
    rw [List.length_map, List.filter_eq_self.2, List.length_range, resS_len]
    intro i hi
    rw [List.mem_range, resS_len] at hi
    have h2 := hall i hi
    unfold outS outI at h2
    rw [List.contains_iff_mem, List.mem_map] at h2
    obtain ⟨j, hj, e⟩ := h2
    have : j = i := Int.ofNat.inj e
    subst this
    exact (List.mem_filter.1 hj).2
  omega
theorem acc_one (o : SgsOk l n d f) : 1 ≤ (accS l (outS l n d f) l.length).n := by
  obtain ⟨i, hi, hc⟩ := out_miss o
  have h1 := acc_mono l (outS l n d f) l.length (i + 1) (by omega)
  have h0 := (acc_bd o (outS l n d f) i (by omega)).n0
  have h2 : (accS l (outS l n d f) (i + 1)).n = (accS l (outS l n d f) i).n + 1 := by
    conv => lhs; unfold accS
    rw [hc]; rfl
  omega
/-- The mean. -/
def atS (a : AccV) : Int := a.ti / a.n
def whS (a : AccV) : Int := a.re / a.n
def rsS (a : AccV) (n d : Int) : Int := 2000 * d * (a.re - whS a * a.n) + 2 * n * (atS a * a.n - a.ti) + 1000 * d * a.n
def menS (l : List SgV) (n d : Int) (a : AccV) : SgV :=
  { fstS l with hs := whS a + rsS a n d / (2000 * d * a.n), wi := -((-2 * a.wi - a.n) / (2 * a.n)), lo := midI (fstS l) + atS a - a.be, hi := midI (fstS l) + atS a + a.af }
end Go.Proofs.YtmomoeagnkjbiaaGreat
/- The mean of sights: bounds of what is reckoned. No walk. -/
namespace Go.Proofs.YtmomoeagnkjbiaaGreat
open Go.RowKit

theorem fl_rest {a n : Int} (hn : 1 ≤ n) : 0 ≤ a - a / n * n ∧ a - a / n * n < n := by
  have h1 := Int.mul_ediv_add_emod a n
  have h2 := Int.emod_nonneg a (show n ≠ 0 by omega)
  have h3 := Int.emod_lt_of_pos a (show 0 < n by omega)
  rw [Int.mul_comm] at h1
  omega
theorem fl_bd {a n B : Int} (hn : 1 ≤ n) (h0 : 0 ≤ B) (h1 : -B ≤ a) (h2 : a ≤ B) : -B ≤ a / n ∧ a / n ≤ B := ediv_bd hn B h0 h1 h2
structure MenB (a : AccV) (n d : Int) : Prop where
  at0 : -3456000000 ≤ atS a ∧ atS a ≤ 3456000000
  wh0 : -312000000 ≤ whS a ∧ whS a ≤ 312000000
  q1 : -400000000000 ≤ whS a * a.n ∧ whS a * a.n ≤ 400000000000
  q2 : -400000000000 ≤ atS a * a.n ∧ atS a * a.n ≤ 400000000000
  u : 0 ≤ a.re - whS a * a.n ∧ a.re - whS a * a.n ≤ 40
  v : -40 ≤ atS a * a.n - a.ti ∧ atS a * a.n - a.ti ≤ 0
  p1 : -85899345920000 ≤ 2000 * d * (a.re - whS a * a.n) ∧ 2000 * d * (a.re - whS a * a.n) ≤ 85899345920000
  p2 : -85899345920 ≤ 2 * n * (atS a * a.n - a.ti) ∧ 2 * n * (atS a * a.n - a.ti) ≤ 85899345920
  p3 : 0 ≤ 1000 * d * a.n ∧ 1000 * d * a.n ≤ 42949672960000
  dd : 1 ≤ 2000 * d * a.n ∧ 2000 * d * a.n ≤ 85899345920000
  fq : -200000000000000 ≤ rsS a n d / (2000 * d * a.n) ∧ rsS a n d / (2000 * d * a.n) ≤ 200000000000000
  wi : -5000000 ≤ (-2 * a.wi - a.n) / (2 * a.n) ∧ (-2 * a.wi - a.n) / (2 * a.n) ≤ 5000000
theorem men_bd {a : AccV} {n d : Int} {k : Nat} (h : AccB a k) (hk : k ≤ 40) (hn : 1 ≤ a.n) (hs : SlOk n d) : MenB a n d := by
  obtain ⟨n0, n1, t0, t1, r0, r1, w0, w1, b0, b1, a0, a1⟩ := h
  obtain ⟨s1, s2, d1, d2⟩ := hs
  have hA := fl_bd (a := a.ti) (B := 3456000000) hn (by decide) (by omega) (by omega)
  have hW := fl_bd (a := a.re) (B := 312000000) hn (by decide) (by omega) (by omega)
  have hU := fl_rest (a := a.re) hn
  have hV := fl_rest (a := a.ti) hn
  have q1 : -400000000000 ≤ whS a * a.n ∧ whS a * a.n ≤ 400000000000 := by unfold whS; omega
  have q2 : -400000000000 ≤ atS a * a.n ∧ atS a * a.n ≤ 400000000000 := by unfold atS; omega
  have u : 0 ≤ a.re - whS a * a.n ∧ a.re - whS a * a.n ≤ 40 := by unfold whS; omega
  have v : -40 ≤ atS a * a.n - a.ti ∧ atS a * a.n - a.ti ≤ 0 := by unfold atS; omega
  have p1 := mul_in (x := 2000 * d) (k := a.re - whS a * a.n) 2147483648000 40 (by omega) (by omega) (by decide)
  have p2 := mul_in (x := 2 * n) (k := atS a * a.n - a.ti) 2147483648 40 (by omega) (by omega) (by decide)
  have p3 := mul_in (x := 1000 * d) (k := a.n) 1073741824000 40 (by omega) (by omega) (by decide)
  have p4 := mul_in (x := 2000 * d) (k := a.n) 2147483648000 40 (by omega) (by omega) (by decide)
  have d0 : 1 ≤ 2000 * d * a.n := by
    have : 1 * 1 ≤ 2000 * d * a.n := Int.mul_le_mul (by omega) hn (by decide) (by omega)
    omega
  have d3 : 0 ≤ 1000 * d * a.n := Int.mul_nonneg (by omega) (by omega)
  refine ⟨hA, hW, q1, q2, u, v, by omega, by omega, by omega, by omega, ?_, ?_⟩
  · refine fl_bd d0 (by decide) ?_ ?_ <;> (unfold rsS; omega)
  · exact fl_bd (by omega) (by decide) (by omega) (by omega)
end Go.Proofs.YtmomoeagnkjbiaaGreat
/- The reference on sights: Middle, alike, in. -/
namespace Go.Proofs.YtmomoeagnkjbiaaGreat
open Go.RowKit

set_option maxHeartbeats 400000 in
set_option maxRecDepth 100000 in
theorem r23_Middle (s : SgV) (w : World) (h : SgT s) :
    Calls Tryz.prog 59 #[s.val] w fun e w' => e = .returned (.int .i64 (midI s)) ∧ ∃ d, w' = bw w d := by
  have h1 := h.lo; have h2 := h.le; have h3 := h.hi
  have k1 : IntKind.i64.wrap (s.lo + s.hi) = s.lo + s.hi := IntWalk.i64_in _ (by omega)
  have HF := Lib.hid (fun W => ref05_Floor (s.lo + s.hi) 2 W (by decide) (by omega) (by omega))
  rw [sg_val]
  unfold midI
  generalize (s.lo + s.hi) / 2 = m at *
  clear h h1 h2 h3
  obtain ⟨body, limb, lo, hi, hs, wi, hz, ey, sh, te, pr⟩ := s
  dsimp only at *
  refine lay_start ?_
  go_enter Tryz.func59, Tryz.ntmps59
  go_wp2_with (go_at_call 109; refine (HF.out _).mono ?_; rintro e w' ⟨rfl, rfl⟩)
  go_ret
  exact ⟨rfl, lay_ex _ _⟩
set_option maxHeartbeats 1000000 in
set_option maxRecDepth 100000 in
theorem r23_alike (a b : SgV) (w : World) :
    Calls Tryz.prog 102 #[a.val, b.val] w fun e w' => e = .returned (.bool (likB a b)) ∧ ∃ d, w' = bw w d := by
  obtain ⟨r, hr⟩ : ∃ r, likB a b = r := ⟨_, rfl⟩
  rw [hr, sg_val, sg_val]
  have HR := Lib.hid hr
  have HY : Hid (Like a b → r = true) := Lib.hid fun h => by rw [← HR.out]; exact decide_eq_true h
  have HN : Hid (¬ Like a b → r = false) := Lib.hid fun h => by rw [← HR.out]; exact decide_eq_false h
  have HP : Hid (a.body.toList = b.body.toList → a.limb = b.limb → a.hz = b.hz → a.ey = b.ey → a.sh = b.sh → a.te = b.te → r = (a.pr == b.pr)) := Lib.hid fun h1 h2 h3 h4 h5 h6 => by
    rw [← HR.out, Bool.eq_iff_iff]
    exact ⟨fun h => beq_iff_eq.2 (of_decide_eq_true h).pr, fun h => decide_eq_true ⟨h1, h2, h3, h4, h5, h6, beq_iff_eq.1 h⟩⟩
  clear hr
  refine lay_start ?_
  go_enter Tryz.func102, Tryz.ntmps102
  go_wp2_with fail
  all_goals go_ret
  all_goals refine ⟨?_, by first | exact lay_ex _ _ | (rw [bw_drewExt, lay_bw]; exact lay_ex _ _)⟩
  all_goals first
    | (rw [HP.out (by assumption) (by assumption) (by assumption) (by assumption) (by assumption) (by assumption)]; rfl)
    | (rw [HY.out ⟨by assumption, by assumption, by assumption, by assumption, by assumption, by assumption, by assumption⟩]; rfl)
    | (rw [HN.out (fun h => absurd h.body (by assumption))]; rfl)
    | (rw [HN.out (fun h => absurd h.limb (by assumption))]; rfl)
    | (rw [HN.out (fun h => absurd h.hz (by assumption))]; rfl)
    | (rw [HN.out (fun h => absurd h.ey (by assumption))]; rfl)
    | (rw [HN.out (fun h => absurd h.sh (by assumption))]; rfl)
    | (rw [HN.out (fun h => absurd h.te (by assumption))]; rfl)
    | (rw [HN.out (fun h => absurd h.pr (by assumption))]; rfl)
theorem cont_succ {l : List Int} {x : Int} {k : Nat} (h : k < l.length) : (l.take (k + 1)).contains x = ((l.take k).contains x || decide (x = nth l k)) := by
  rw [take_nth h, Bool.eq_iff_iff]
  simp
set_option maxHeartbeats 1000000 in
set_option maxRecDepth 100000 in
theorem r23_in (v : Value) (l : List Int) (x : Int) (w : World) (hl : Sl w v l) (hn : l.length ≤ 1000000) :
    Calls Tryz.prog 110 #[v, .int .i64 x] w fun e w' => e = .returned (.bool (l.contains x)) ∧ ∃ d, w' = bw w d := by
  have HT := Lib.hid (fun k (hk : k < l.length) => cont_succ (x := x) hk)
  have HE : Hid (l.take l.length = l) := Lib.hid (List.take_length)
  by_cases hz : l.length = 0
  · obtain rfl : l = [] := List.length_eq_zero_iff.1 hz
    obtain ⟨a, cap, rfl, -⟩ := hl
    refine lay_start ?_
    go_enter Tryz.func110, Tryz.ntmps110
    go_wp2_with fail
    go_loopw [5] (fun v5 wr => ∃ dd : Ext, v5 = .int .i64 0 ∧ wr = lay w [.inr dd]) (fun _ _ => 0)
    case atStart => exact ⟨noExt _, rfl, (bw_noExt _).symm⟩
    case round =>
      obtain ⟨dd, rfl, rfl⟩ := hrel
      go_wp2_with fail
      go_ret
      exact ⟨rfl, lay_ex _ _⟩
  · obtain ⟨b, o, cap, rfl, hc, -, hbs, hr⟩ := hl.open (by omega)
    obtain ⟨m, hm⟩ : ∃ m, l.length = m := ⟨_, rfl⟩
    rw [hm] at hr hc HT HE hn ⊢
    have HC := Lib.hid hr
    obtain ⟨R, hR⟩ : ∃ R, l.contains x = R := ⟨_, rfl⟩
    rw [hR]
    have HR := Lib.hid hR
    clear hr hm hl hz hR
    refine lay_start ?_
    go_enter Tryz.func110, Tryz.ntmps110
    go_wp2_with fail
    go_loopw [5] (fun v5 wr => ∃ (k : Nat) (dd : Ext), k ≤ m ∧ v5 = .int .i64 (k : Int) ∧ wr = lay w [.inr dd] ∧ (l.take k).contains x = false) (fun v5 _ => m - (intOf v5).toNat)
    case atStart => exact ⟨0, noExt _, Nat.zero_le _, rfl, (bw_noExt _).symm, rfl⟩
    case round =>
      obtain ⟨k, dd, hk, rfl, rfl, hA⟩ := hrel
      have HA := Lib.hid hA
      clear hA
      by_cases hlt : k < m
      · have x1 : (k : Int) < (m : Int) := by omega
        have c1 := HC.out k hlt
        have w3 : IntKind.i64.wrap ((k : Int) + 1) = (k : Int) + 1 := IntWalk.i64_in _ (by omega)
        have hT := HT.out k hlt
        rw [HA.out, Bool.false_or] at hT
        obtain ⟨y, hy⟩ : ∃ y, nth l k = y := ⟨_, rfl⟩
        rw [hy] at hT c1
        clear hy
        by_cases e : y = x
        · have e2 : (y == x) = true := beq_iff_eq.2 e
          have HF : Hid (R = true) := Lib.hid (by
            rw [← HR.out]
            rw [decide_eq_true e.symm] at hT
            rw [List.contains_iff_mem] at hT ⊢
            exact List.mem_of_mem_take hT)
          clear hT
          subst e
          go_wp2_with fail
          go_ret
          rw [HF.out]
          exact ⟨rfl, lay_ex _ _⟩
        · have e2 : (y == x) = false := beq_eq_false_iff_ne.2 e
          rw [decide_eq_false (fun h => e h.symm)] at hT
          have HT2 := Lib.hid hT
          clear hT
          go_wp2_with fail
          go_roundw
          case rel => exact ⟨k + 1, dd, by omega, by go_num, rfl, HT2.out⟩
          case measure => simp [intOf]; omega
      · obtain rfl : k = m := by omega
        have HF : Hid (R = false) := Lib.hid (by rw [← HR.out, ← HA.out, HE.out])
        go_wp2_with fail
        go_ret
        rw [HF.out]
        exact ⟨rfl, lay_ex _ _⟩
end Go.Proofs.YtmomoeagnkjbiaaGreat
