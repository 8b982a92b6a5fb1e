/- Contracts and plain laws, several texts in one: Frame; CiC; WrA; Rq; Rs; Ru; Rv -/
import Derived.Test.YtkhhdpndcidmgaaGreatRows
import Derived.WalkKit
import Derived.ProofKit
import Derived.Lib.SmallJoins
import Derived.OpenShut
import Derived.Test.YtkhhdpndcidmgaaGreatProg
import Derived.WalkSpells
import Derived.WalkLawsBesides
import Derived.Lib.Hide
import Derived.BigQuiet
import GoSem.Core.Next
import Derived.Test.YtkhhdpndcidmgaaGreatSAC
import Derived.Test.YtkhhdpndcidmgaaGreatSAD
import Derived.Test.YtkhhdpndcidmgaaGreatSAE
import Derived.Test.YtkhhdpndcidmgaaGreatSAF
import Derived.Test.YtkhhdpndcidmgaaGreatSBA
import Derived.Test.YtkhhdpndcidmgaaGreatSBB
/- The step from a law's walk to its row: every argument reads behind the call as it did before; the result is true. -/
namespace Go.Proofs.YtkhhdpndcidmgaaGreat
open Go.ChangeShapes Go.WideShapes Go.ChangeAt Go.RowKit Go.Joins

theorem ownKnob_none : ownKnob Tryz.prog.godebug = none := by kernel_rfl
theorem laid_out : laidOutB Tryz.prog = true := by kernel_rfl

theorem trodAll_stays {H : Type} {enc : TypeId × Value → H} {P : Program} (hl : laidOutB P = true) {W W' : World} (hb : Below W.heap.size W W') :
    ∀ (ts : List TypeId) (vs : List Value) (ds : List (DataW H)) (ps : List MemPlace), ts.all (fun t => P.readableRec t && decide (t < P.types.size)) = true →
    (∀ x ∈ ps, x.block < W.heap.size) → DataW.TrodAll enc P W 0 (fun _ => true) true ts vs ds ps → DataW.TrodAll enc P W' 0 (fun b => decide (b < W.heap.size)) true ts vs ds ps
  | [], vs, ds, ps, _, _, h => by cases vs <;> cases ds <;> simp_all [DataW.TrodAll]
  | t :: ts, vs, ds, ps, hr, hlt, h => by
    obtain ⟨v, vs', d, ds', p, q, rfl, rfl, rfl, h1, h2⟩ := trodAll_cons h
    simp only [List.all_cons, Bool.and_eq_true, decide_eq_true_eq] at hr
    exact ⟨p, q, Below.trod hl hr.1.1 hr.1.2 h1 hb (fun x hx => hlt x (List.mem_append_left _ hx)),
      trodAll_stays hl hb ts vs' ds' q hr.2 (fun x hx => hlt x (List.mem_append_right _ hx)) h2, rfl⟩

theorem law_post {H : Type} {enc : TypeId × Value → H} {P : Program} {f : Func} {s : ChangeSpec} {W W' : World} {args : Array Value} {ds : List (DataW H)} {before : List MemPlace} {tb : TypeId}
    (hl : laidOutB P = true) (hW : DataW.Whole enc P f.params.toList s.vars false W args.toList ds [] before) (hv : s.vars = [])
    (hs : s.fn H (ds ++ []) = { results := [.lit (.bool true)], args := ds }) (hrt : f.resultTypes = #[tb]) (htb : P.underlying tb = some .bool)
    (hr : f.params.toList.all (fun t => P.readableRec t && decide (t < P.types.size)) = true) (hb : Below W.heap.size W W') :
    s.post enc P f false true false false W args (.bool true) W' := by
  have hlt := hW.lt
  have hW' := hW
  obtain ⟨p, q, hA, hV, rfl, hfz, hnd⟩ := hW'
  rw [hv] at hV
  have hq : q = [] := by simpa [DataW.TrodVars] using hV
  subst hq
  simp only [List.append_nil] at hlt hW
  refine ⟨ds, [], p, [], p, [], hW, ?_, ?_, ?_, hb.frame _, fun h => by cases h⟩
  · rw [hs, hrt]
    exact ⟨[], [], shut_bool htb true, rfl, rfl⟩
  · rw [hs]
    exact trodAll_stays hl hb _ _ _ _ hr hlt hA
  · rw [hs, hv]
    rfl
end Go.Proofs.YtkhhdpndcidmgaaGreat
/- The exact rotation's sines lie in the cells that the program finds, and not near to their borders. No program in sight. -/
namespace Go.Proofs.YtkhhdpndcidmgaaGreat
open Go.RowKit

theorem thirdS_ab : (2 * evI lisS 1800000 - facW).natAbs * 1267650600228229401496703205376 ≤ 2 * facW := by decide +kernel
theorem sin_third : Nr (sinT 1800000) (1 / 2) eps := by
  have h2 : sinT 1800000 * (facW : Rat) = ((evI lisS 1800000 : Int) : Rat) := lisS_ok 1800000
  have hM := eps_of (M := (2 * evI lisS 1800000 - facW).natAbs) (W := 2 * facW) thirdS_ab
  have hW := facW_rat
  refine nr_of_int (W := 2 * (facW : Rat)) (x := 2 * evI lisS 1800000 - facW) (by grind) ?_ (Nat.le_refl _) (by push_cast at hM; exact hM)
  rw [show (sinT 1800000 - 1 / 2) * (2 * (facW : Rat)) = 2 * (sinT 1800000 * (facW : Rat)) - (facW : Rat) by grind, h2]
  generalize evI lisS 1800000 = u
  push_cast
  rfl
def e60 : Rat := 1 / 73786976294838206464
theorem near60 {r : Nat} (h : r ≤ 2700000) : 64 * (r : Rat) / k96 ≤ 1 / 442721857769029238784 := by
  have hr : (r : Rat) ≤ 2700000 := by exact_mod_cast h
  unfold k96
  grind
theorem q_near : -e60 ≤ zC 5400000 ∧ zC 5400000 ≤ e60 ∧ 1 - e60 ≤ zS 5400000 ∧ zS 5400000 ≤ 1 := by
  obtain ⟨h1, h2⟩ := z_near (r := 2700000) (by decide)
  have h3 := near60 (r := 2700000) (by decide)
  have h4 := (h1.trans sin_mid).trans h2.symm
  have he : eps ≤ 1 / 442721857769029238784 := by unfold eps; grind
  obtain ⟨a1, a2⟩ := z_add 2700000 2700000
  rw [show (5400000 : Int) = ((2700000 + 2700000 : Nat) : Int) from rfl, zS_nat, zC_nat, a1, a2]
  have u := z_unit 2700000
  obtain ⟨b1, b2⟩ := sq_one u
  obtain ⟨b3, b4⟩ := sq_one (x := zc 2700000) (y := zs 2700000) (by grind)
  generalize zs 2700000 = s at *
  generalize zc 2700000 = c at *
  have d : Nr s c (1 / 147573952589676412928) := h4.le (by grind)
  obtain ⟨d1, d2⟩ := d
  obtain ⟨p1, p2⟩ := rabs (m := 2) (f := 1 / 147573952589676412928) (x := c + s) (y := c - s) (by grind) (by grind) (by grind) (by grind)
  obtain ⟨q1, q2⟩ := rabs (m := 1 / 147573952589676412928) (f := 1 / 147573952589676412928) (x := c - s) (y := c - s) (by grind) (by grind) (by grind) (by grind)
  have sq0 : 0 ≤ (c - s) * (c - s) := by
    rcases (Rat.le_total : (0 : Rat) ≤ (c - s) ∨ (c - s) ≤ 0) with g | g
    · exact rmul0 g g
    · have := rmul0 (show 0 ≤ -(c - s) by grind) (show 0 ≤ -(c - s) by grind); grind
  unfold e60
  refine ⟨?_, ?_, ?_, ?_⟩ <;> grind
theorem q_natz : -e60 ≤ zc 5400000 ∧ zc 5400000 ≤ e60 ∧ 1 - e60 ≤ zs 5400000 ∧ zs 5400000 ≤ 1 := by
  have h := q_near
  rw [show (5400000 : Int) = ((5400000 : Nat) : Int) from rfl, zS_nat, zC_nat] at h
  exact h
structure CellE (n : Int) (t g : Rat) : Prop where
  lo : (bLo n : Rat) ≤ 1073741824 * zS n + t
  hi : 1073741824 * zS n ≤ (bHi n : Rat) + t
  up : 1073741824 * zS n + g ≤ (bLo n : Rat) + 1
  dn : (bHi n : Rat) + g ≤ 1073741824 * zS n + 1
theorem CellE.same {n m : Int} {t g d t' g' : Rat} (h : CellE n t g) (hn : Nr (zS m) (zS n) d) (h1 : bLo m = bLo n) (h2 : bHi m = bHi n) (ht : t + 1073741824 * d ≤ t') (hg : g' + 1073741824 * d ≤ g) : CellE m t' g' := by
  obtain ⟨a1, a2, a3, a4⟩ := h
  obtain ⟨n1, n2⟩ := hn
  have e1 : (bLo m : Rat) = (bLo n : Rat) := by rw [h1]
  have e2 : (bHi m : Rat) = (bHi n : Rat) := by rw [h2]
  constructor <;> simp only [e1, e2] <;> grind
theorem CellE.opp {n m : Int} {t g d t' g' : Rat} (h : CellE n t g) (hn : Nr (zS m) (-(zS n)) d) (h1 : bLo m = -(bHi n)) (h2 : bHi m = -(bLo n)) (ht : t + 1073741824 * d ≤ t') (hg : g' + 1073741824 * d ≤ g) : CellE m t' g' := by
  obtain ⟨a1, a2, a3, a4⟩ := h
  obtain ⟨n1, n2⟩ := hn
  have e1 : (bLo m : Rat) = -(bHi n : Rat) := by rw [h1]; push_cast; rfl
  have e2 : (bHi m : Rat) = -(bLo n : Rat) := by rw [h2]; push_cast; rfl
  constructor <;> simp only [e1, e2] <;> grind
theorem near_zs {r : Nat} (h : r ≤ 2700000) : Nr (zs r) (sinT r) (1 / 442721857769029238784) ∧ Nr (zc r) (cosT r) (1 / 442721857769029238784) :=
  ⟨(z_near h).1.le (near60 h), (z_near h).2.le (near60 h)⟩
theorem cell_bt {f : Nat} {v z : Rat} (hb : Bt f v) (hn : Nr z v (1 / 442721857769029238784)) : (f : Rat) + 1 / 8388608 ≤ 1073741824 * z ∧ 1073741824 * z + 1 / 8388608 ≤ (f : Rat) + 1 := by
  obtain ⟨b1, b2⟩ := hb
  obtain ⟨n1, n2⟩ := hn
  constructor <;> grind
theorem cell_q {m : Nat} (h : m ≤ 5400000) : ((sinQ m : Nat) : Rat) ≤ 1073741824 * zs m + 1 / 17179869184 ∧ 1073741824 * zs m ≤ ((hiQ m : Int) : Rat) + 1 / 17179869184 ∧ 1073741824 * zs m + 1 / 9000000 ≤ ((sinQ m : Nat) : Rat) + 1 ∧ ((hiQ m : Int) : Rat) + 1 / 9000000 ≤ 1073741824 * zs m + 1 := by
  have exact : ∀ {k : Nat}, sinQ m = k → hiQ m = (k : Int) → Nr (1073741824 * zs m) (k : Rat) (1 / 17179869184) → ((sinQ m : Nat) : Rat) ≤ 1073741824 * zs m + 1 / 17179869184 ∧ 1073741824 * zs m ≤ ((hiQ m : Int) : Rat) + 1 / 17179869184 ∧ 1073741824 * zs m + 1 / 9000000 ≤ ((sinQ m : Nat) : Rat) + 1 ∧ ((hiQ m : Int) : Rat) + 1 / 9000000 ≤ 1073741824 * zs m + 1 := fun {k} h1 h2 h3 => by
    rw [h1, h2]
    obtain ⟨n1, n2⟩ := h3
    push_cast
    refine ⟨?_, ?_, ?_, ?_⟩ <;> grind
  have inner : ∀ {f : Nat}, sinQ m = f → hiQ m = (f : Int) + 1 → (f : Rat) + 1 / 8500000 ≤ 1073741824 * zs m ∧ 1073741824 * zs m + 1 / 8500000 ≤ (f : Rat) + 1 → ((sinQ m : Nat) : Rat) ≤ 1073741824 * zs m + 1 / 17179869184 ∧ 1073741824 * zs m ≤ ((hiQ m : Int) : Rat) + 1 / 17179869184 ∧ 1073741824 * zs m + 1 / 9000000 ≤ ((sinQ m : Nat) : Rat) + 1 ∧ ((hiQ m : Int) : Rat) + 1 / 9000000 ≤ 1073741824 * zs m + 1 := fun {f} h1 h2 h3 => by
    rw [h1, h2]
    obtain ⟨n1, n2⟩ := h3
    push_cast
    refine ⟨?_, ?_, ?_, ?_⟩ <;> grind
  have hu : hiQ m = (sinQ m : Int) + oneQ m := rfl
  have ho := oneQ_at m
  by_cases c0 : m = 0
  · subst c0
    refine exact (k := 0) sinQ_0 (by rw [hu, ho, sinQ_0]; rfl) ?_
    rw [zs_0]
    constructor <;> grind
  by_cases c1 : m = 1800000
  · subst c1
    refine exact (k := 536870912) sinQ_h (by rw [hu, ho, sinQ_h, if_pos (.inr (.inl rfl)), Int.add_zero]) ?_
    have h1 := (near_zs (r := 1800000) (by decide)).1.trans sin_third
    have he : eps ≤ 1 / 442721857769029238784 := by unfold eps; grind
    obtain ⟨n1, n2⟩ := h1
    generalize zs 1800000 = z at *
    push_cast
    constructor <;> grind
  by_cases c2 : m = 5400000
  · subst c2
    refine exact (k := 1073741824) sinQ_q (by rw [hu, ho, sinQ_q, if_pos (.inr (.inr rfl)), Int.add_zero]) ?_
    obtain ⟨h1, h2, h3, h4⟩ := q_natz
    unfold e60 at h3
    generalize zs 5400000 = z at *
    push_cast
    constructor <;> grind
  rw [if_neg (by omega)] at ho
  rw [ho] at hu
  by_cases c3 : m ≤ 2700000
  · have hs := sinQ_s c0 c1 c3
    rw [hs] at hu
    have := cell_bt (octS_bt (r := m) (by omega) c3 c1) (near_zs c3).1
    exact inner hs hu (by obtain ⟨n1, n2⟩ := this; constructor <;> grind)
  · have hs := sinQ_c (n := m) (by omega) (by omega)
    rw [hs] at hu
    obtain ⟨k, hk⟩ : ∃ k, 5400000 - m = k := ⟨_, rfl⟩
    rw [hk] at hs hu
    have hb := cell_bt (octC_bt (r := k) (by omega) (by omega)) (near_zs (r := k) (by omega)).2
    refine inner hs hu ?_
    obtain ⟨z1, -⟩ := z_sub (a := 5400000) (b := k) (by omega)
    rw [show 5400000 - k = m by omega] at z1
    obtain ⟨q1, q2, q3, q4⟩ := q_natz
    generalize zs 5400000 = zq at *
    generalize zc 5400000 = cq at *
    have u := z_unit k
    obtain ⟨b1, b2⟩ := sq_one u
    obtain ⟨b3, b4⟩ := sq_one (x := zc k) (y := zs k) (by grind)
    obtain ⟨p1, p2⟩ := rabs (x := zq - 1) (y := zc k) (m := e60) (f := 1) (by grind) (by unfold e60 at *; grind) b3 b4
    obtain ⟨p3, p4⟩ := rabs (x := cq) (y := zs k) (m := e60) (f := 1) (by grind) (by grind) b1 b2
    rw [z1]
    unfold e60 at *
    obtain ⟨n1, n2⟩ := hb
    constructor <;> grind
theorem cell_1 {n : Int} (h0 : 0 ≤ n) (h1 : n ≤ 5400000) : CellE n (1 / 17179869184) (1 / 9000000) := by
  obtain ⟨m, rfl⟩ := Int.eq_ofNat_of_zero_le h0
  obtain ⟨e1, e2⟩ := b_one h0 h1
  have h := cell_q (m := m) (by omega)
  rw [Int.toNat_natCast] at e1 e2
  obtain ⟨a1, a2, a3, a4⟩ := h
  constructor
  · rw [e1, zS_nat]; push_cast; exact a1
  · rw [e2, zS_nat]; exact a2
  · rw [e1, zS_nat]; push_cast; exact a3
  · rw [e2, zS_nat]; exact a4
theorem cell_2 {n : Int} (h0 : -5400000 ≤ n) (h1 : n ≤ 5400000) : CellE n (1 / 17179869184) (1 / 9000000) := by
  by_cases h : 0 ≤ n
  · exact cell_1 h h1
  · obtain ⟨b1, b2⟩ := b_odd (n := -n) (by omega) (by omega)
    rw [Int.neg_neg] at b1 b2
    refine (cell_1 (n := -n) (by omega) (by omega)).opp (d := 0) ?_ b1 b2 (by grind) (by grind)
    rw [zS_neg]
    constructor <;> grind
theorem half_near : -(2 * e60) ≤ zS 10800000 ∧ zS 10800000 ≤ 2 * e60 ∧ -1 ≤ zC 10800000 ∧ zC 10800000 ≤ -1 + 3 * e60 := by
  obtain ⟨q1, q2, q3, q4⟩ := q_near
  obtain ⟨a1, a2⟩ := Z_add 5400000 5400000
  rw [show (5400000 : Int) + 5400000 = 10800000 from rfl] at a1 a2
  have hz := (Z_in 10800000).2.1
  rw [a2] at hz
  rw [a1, a2]
  clear a1 a2
  generalize zS 5400000 = s at *
  generalize zC 5400000 = c at *
  have he : (0 : Rat) < e60 ∧ e60 ≤ 1 / 1000 := by unfold e60; constructor <;> grind
  generalize e60 = e at *
  obtain ⟨p1, p2⟩ := rabs (x := s) (y := c) (m := 1) (f := e) (by grind) q4 q1 q2
  obtain ⟨p3, p4⟩ := rabs (x := c) (y := c) (m := e) (f := e) q1 q2 q1 q2
  have p5 := rmul (a := 1 - e) (b := s) (c := 1 - e) (d := s) (by grind) q3 (by grind) q3
  have p6 := rmul (a := e) (b := 1 / 1000) (c := e) (d := e) (by grind) (by grind) (by grind) (by grind)
  refine ⟨?_, ?_, hz, ?_⟩ <;> grind
theorem turn_near : -(5 * e60) ≤ zS 21600000 ∧ zS 21600000 ≤ 5 * e60 ∧ 1 - 7 * e60 ≤ zC 21600000 ∧ zC 21600000 ≤ 1 := by
  obtain ⟨q1, q2, q3, q4⟩ := half_near
  obtain ⟨a1, a2⟩ := Z_add 10800000 10800000
  rw [show (10800000 : Int) + 10800000 = 21600000 from rfl] at a1 a2
  have hz := (Z_in 21600000).2.2
  rw [a2] at hz
  rw [a1, a2]
  clear a1 a2
  generalize zS 10800000 = s at *
  generalize zC 10800000 = c at *
  have he : (0 : Rat) < e60 ∧ e60 ≤ 1 / 1000 := by unfold e60; constructor <;> grind
  generalize e60 = e at *
  obtain ⟨p1, p2⟩ := rabs (x := c) (y := s) (m := 1) (f := 2 * e) (by grind) (by grind) q1 q2
  obtain ⟨p3, p4⟩ := rabs (x := s) (y := s) (m := 2 * e) (f := 2 * e) q1 q2 q1 q2
  have p5 := rmul (a := 1 - 3 * e) (b := -c) (c := 1 - 3 * e) (d := -c) (by grind) (by grind) (by grind) (by grind)
  have p6 := rmul (a := e) (b := 1 / 1000) (c := e) (d := e) (by grind) (by grind) (by grind) (by grind)
  refine ⟨?_, ?_, ?_, hz⟩ <;> grind
def t31 : Rat := 1 / 2147483648
def g24 : Rat := 1 / 16777216
theorem zS_refl (m : Int) : Nr (zS (10800000 - m)) (zS m) (6 * e60) := by
  obtain ⟨q1, q2, q3, q4⟩ := half_near
  obtain ⟨a1, -⟩ := Z_sub 10800000 m
  obtain ⟨⟨b1, b2⟩, b3, b4⟩ := Z_in m
  rw [a1]
  clear a1
  generalize zS 10800000 = s at *
  generalize zC 10800000 = c at *
  generalize zS m = x at *
  generalize zC m = y at *
  have he : (0 : Rat) < e60 ∧ e60 ≤ 1 / 1000 := by unfold e60; constructor <;> grind
  generalize e60 = e at *
  obtain ⟨p1, p2⟩ := rabs (x := s) (y := y) (m := 2 * e) (f := 1) q1 q2 b3 b4
  obtain ⟨p3, p4⟩ := rabs (x := c + 1) (y := x) (m := 3 * e) (f := 1) (by grind) (by grind) b1 b2
  constructor <;> grind
theorem zS_turn (m : Int) : Nr (zS (m + 21600000)) (zS m) (12 * e60) := by
  obtain ⟨q1, q2, q3, q4⟩ := turn_near
  obtain ⟨a1, -⟩ := Z_add m 21600000
  obtain ⟨⟨b1, b2⟩, b3, b4⟩ := Z_in m
  rw [a1]
  clear a1
  generalize zS 21600000 = s at *
  generalize zC 21600000 = c at *
  generalize zS m = x at *
  generalize zC m = y at *
  have he : (0 : Rat) < e60 ∧ e60 ≤ 1 / 1000 := by unfold e60; constructor <;> grind
  generalize e60 = e at *
  obtain ⟨p1, p2⟩ := rabs (x := s) (y := y) (m := 5 * e) (f := 1) q1 q2 b3 b4
  obtain ⟨p3, p4⟩ := rabs (x := c - 1) (y := x) (m := 7 * e) (f := 1) (by grind) (by grind) b1 b2
  constructor <;> grind
theorem cell_3 {n : Int} (h0 : -5400000 ≤ n) (h1 : n ≤ 16200000) : CellE n (1 / 6000000000) (1 / 10000000) := by
  have he : 1073741824 * (6 * e60) ≤ 1 / 10000000000 := by unfold e60; grind
  by_cases h : n ≤ 5400000
  · refine (cell_2 h0 h).same (d := 0) ?_ rfl rfl (by grind) (by grind)
    constructor <;> grind
  · have hn := zS_refl (10800000 - n)
    rw [show 10800000 - (10800000 - n) = n by omega] at hn
    refine (cell_2 (n := 10800000 - n) (by omega) (by omega)).same hn ?_ ?_ (by grind) (by grind)
    · by_cases g : n ≤ 10800000
      · rw [(b_two (n := n) (by omega) g).1, (b_one (n := 10800000 - n) (by omega) (by omega)).1]
      · rw [(b_three (n := n) (by omega) h1).1, (b_four (n := 10800000 - n) (by omega) (by omega)).1, show (-(10800000 - n)) = n - 10800000 by omega]
    · by_cases g : n ≤ 10800000
      · rw [(b_two (n := n) (by omega) g).2, (b_one (n := 10800000 - n) (by omega) (by omega)).2]
      · rw [(b_three (n := n) (by omega) h1).2, (b_four (n := 10800000 - n) (by omega) (by omega)).2, show (-(10800000 - n)) = n - 10800000 by omega]
theorem cell_all {n : Int} (h0 : -5400000 ≤ n) (h1 : n ≤ 27000000) : CellE n t31 g24 := by
  have he : 1073741824 * (12 * e60) ≤ 1 / 5000000000 := by unfold e60; grind
  by_cases h : n ≤ 16200000
  · refine (cell_3 h0 h).same (d := 0) ?_ rfl rfl (by unfold t31; grind) (by unfold g24; grind)
    constructor <;> grind
  · have hn := zS_turn (n - 21600000)
    rw [show n - 21600000 + 21600000 = n by omega] at hn
    have hb := b_shift (n - 21600000) 1
    rw [show n - 21600000 + 21600000 * 1 = n by omega] at hb
    exact (cell_3 (n := n - 21600000) (by omega) (by omega)).same hn hb.1 hb.2 (by unfold t31; grind) (by unfold g24; grind)
end Go.Proofs.YtkhhdpndcidmgaaGreat
/- A finer rotation of the plane by exact rationals: near to the series of 22 terms, and to the coarser rotation. No program in sight. -/
namespace Go.Proofs.YtkhhdpndcidmgaaGreat

def c1W : Rat := (6277101735386680763835789423207666416102355444464034512896 * 6277101735386680763835789423207666416102355444464034512896 - 912967439709568408115233804051448332609756093151890 * 912967439709568408115233804051448332609756093151890) / (6277101735386680763835789423207666416102355444464034512896 * 6277101735386680763835789423207666416102355444464034512896 + 912967439709568408115233804051448332609756093151890 * 912967439709568408115233804051448332609756093151890)
def s1W : Rat := 2 * 912967439709568408115233804051448332609756093151890 * 6277101735386680763835789423207666416102355444464034512896 / (6277101735386680763835789423207666416102355444464034512896 * 6277101735386680763835789423207666416102355444464034512896 + 912967439709568408115233804051448332609756093151890 * 912967439709568408115233804051448332609756093151890)
theorem unitW : c1W * c1W + s1W * s1W = 1 := by decide +kernel
theorem unitW_near : Nr s1W ((s1U : Rat) / (k160 : Rat)) (1 / (k160 : Rat)) ∧ Nr c1W ((c1U : Rat) / (k160 : Rat)) (1 / (k160 : Rat)) := by
  unfold Nr
  exact ⟨⟨by decide +kernel, by decide +kernel⟩, ⟨by decide +kernel, by decide +kernel⟩⟩
theorem unitW_z : Nr s1W s1R (1 / k96) ∧ Nr c1W c1R (1 / k96) ∧ -(1 / 3437000) ≤ s1R ∧ s1R ≤ 1 / 3437000 ∧ -1 ≤ c1R ∧ c1R ≤ 1 := by
  unfold Nr
  exact ⟨⟨by decide +kernel, by decide +kernel⟩, ⟨by decide +kernel, by decide +kernel⟩, by decide +kernel, by decide +kernel, by decide +kernel, by decide +kernel⟩
def wsc : Nat → Rat × Rat
  | 0 => (0, 1)
  | n + 1 => ((wsc n).1 * c1W + (wsc n).2 * s1W, (wsc n).2 * c1W - (wsc n).1 * s1W)
def ws (n : Nat) : Rat := (wsc n).1
def wc (n : Nat) : Rat := (wsc n).2
theorem ws_0 : ws 0 = 0 := rfl
theorem wc_0 : wc 0 = 1 := rfl
theorem ws_s (n : Nat) : ws (n + 1) = ws n * c1W + wc n * s1W := rfl
theorem wc_s (n : Nat) : wc (n + 1) = wc n * c1W - ws n * s1W := rfl
theorem w_unit : ∀ n, ws n * ws n + wc n * wc n = 1
  | 0 => by rw [ws_0, wc_0]; grind
  | n + 1 => by
    have h := w_unit n
    have u := unitW
    rw [ws_s, wc_s]
    generalize ws n = a at *
    generalize wc n = b at *
    grind
theorem w_add (a : Nat) : ∀ b, ws (a + b) = ws a * wc b + wc a * ws b ∧ wc (a + b) = wc a * wc b - ws a * ws b
  | 0 => by rw [Nat.add_zero, ws_0, wc_0]; constructor <;> grind
  | b + 1 => by
    obtain ⟨h1, h2⟩ := w_add a b
    rw [← Nat.add_assoc, ws_s, wc_s, ws_s, wc_s, h1, h2]
    constructor <;> grind
theorem w_sub {a b : Nat} (h : b ≤ a) : ws (a - b) = ws a * wc b - wc a * ws b ∧ wc (a - b) = wc a * wc b + ws a * ws b := by
  obtain ⟨h1, h2⟩ := w_add (a - b) b
  rw [Nat.sub_add_cancel h] at h1 h2
  have u := w_unit b
  rw [h1, h2]
  generalize ws (a - b) = x at *
  generalize wc (a - b) = y at *
  generalize ws b = p at *
  generalize wc b = q at *
  constructor <;> grind
def wS (n : Int) : Rat := if 0 ≤ n then ws n.toNat else -(ws (-n).toNat)
def wC (n : Int) : Rat := if 0 ≤ n then wc n.toNat else wc (-n).toNat
theorem wS_nat (n : Nat) : wS (n : Int) = ws n := by unfold wS; rw [if_pos (by omega)]; rfl
theorem wC_nat (n : Nat) : wC (n : Int) = wc n := by unfold wC; rw [if_pos (by omega)]; rfl
theorem wS_neg (n : Int) : wS (-n) = -(wS n) := by
  unfold wS
  rcases Int.lt_trichotomy n 0 with h | h | h
  · rw [if_pos (by omega), if_neg (by omega)]; grind
  · subst h
    simp only [Int.neg_zero, Int.le_refl, if_true]
    show ws 0 = -(ws 0)
    rw [ws_0]; grind
  · rw [if_neg (by omega), if_pos (by omega), Int.neg_neg]
theorem wC_neg (n : Int) : wC (-n) = wC n := by
  unfold wC
  rcases Int.lt_trichotomy n 0 with h | h | h
  · rw [if_pos (by omega), if_neg (by omega)]
  · subst h; rfl
  · rw [if_neg (by omega), if_pos (by omega), Int.neg_neg]
theorem W_unit (n : Int) : wS n * wS n + wC n * wC n = 1 := by
  unfold wS wC
  split
  · exact w_unit _
  · have := w_unit (-n).toNat
    grind
theorem W_addN (a b : Nat) : wS ((a : Int) - (b : Int)) = ws a * wc b - wc a * ws b ∧ wC ((a : Int) - (b : Int)) = wc a * wc b + ws a * ws b := by
  by_cases h : b ≤ a
  · rw [show (a : Int) - (b : Int) = ((a - b : Nat) : Int) by omega, wS_nat, wC_nat]
    exact w_sub h
  · obtain ⟨h1, h2⟩ := w_sub (a := b) (b := a) (by omega)
    rw [show (a : Int) - (b : Int) = -((b - a : Nat) : Int) by omega, wS_neg, wC_neg, wS_nat, wC_nat, h1, h2]
    constructor <;> grind
theorem W_add (a b : Int) : wS (a + b) = wS a * wC b + wC a * wS b ∧ wC (a + b) = wC a * wC b - wS a * wS b := by
  have ha : ∃ m : Nat, a = (m : Int) ∨ a = -(m : Int) := ⟨a.natAbs, by omega⟩
  have hb : ∃ m : Nat, b = (m : Int) ∨ b = -(m : Int) := ⟨b.natAbs, by omega⟩
  obtain ⟨m, hm⟩ := ha
  obtain ⟨n, hn⟩ := hb
  rcases hm with rfl | rfl <;> rcases hn with rfl | rfl
  · obtain ⟨h1, h2⟩ := w_add m n
    rw [show (m : Int) + (n : Int) = ((m + n : Nat) : Int) by omega]
    simp only [wS_nat, wC_nat]
    exact ⟨h1, h2⟩
  · obtain ⟨h1, h2⟩ := W_addN m n
    rw [show (m : Int) + -(n : Int) = (m : Int) - (n : Int) by omega, h1, h2]
    simp only [wS_nat, wC_nat, wS_neg, wC_neg]
    constructor <;> grind
  · obtain ⟨h1, h2⟩ := W_addN n m
    rw [show -(m : Int) + (n : Int) = (n : Int) - (m : Int) by omega, h1, h2]
    simp only [wS_nat, wC_nat, wS_neg, wC_neg]
    constructor <;> grind
  · obtain ⟨h1, h2⟩ := w_add m n
    rw [show -(m : Int) + -(n : Int) = -((m + n : Nat) : Int) by omega]
    simp only [wS_nat, wC_nat, wS_neg, wC_neg]
    rw [h1, h2]
    constructor <;> grind
theorem W_sub (a b : Int) : wS (a - b) = wS a * wC b - wC a * wS b ∧ wC (a - b) = wC a * wC b + wS a * wS b := by
  obtain ⟨h1, h2⟩ := W_add a (-b)
  rw [Int.sub_eq_add_neg, h1, h2, wS_neg, wC_neg]
  constructor <;> grind
theorem W_in (n : Int) : (-1 ≤ wS n ∧ wS n ≤ 1) ∧ -1 ≤ wC n ∧ wC n ≤ 1 := ⟨sq_one (W_unit n), sq_one (y := wS n) (by have := W_unit n; grind)⟩
theorem w_near : ∀ {r : Nat}, r ≤ 2700000 → Nr (ws r) (sinU r) (64 * (r : Rat) / (k160 : Rat)) ∧ Nr (wc r) (cosU r) (64 * (r : Rat) / (k160 : Rat))
  | 0, _ => by
    rw [sinU_zero, cosU_zero, ws_0, wc_0]
    constructor
    · constructor <;> grind
    · constructor <;> grind
  | r + 1, h => by
    obtain ⟨h1, h2⟩ := w_near (r := r) (by omega)
    obtain ⟨h3, h4⟩ := oneU_near
    obtain ⟨u1, u2⟩ := unitW_near
    have v1 := u1.trans h3
    have v2 := u2.trans h4
    have hc1 := cosU_in (n := 1) (by omega)
    have hs1 := sinU_in (n := 1) (by omega)
    have hx1 := xi_one
    have wu := w_unit r
    obtain ⟨z1, z2⟩ := sq_one wu
    obtain ⟨z3, z4⟩ := sq_one (x := wc r) (y := ws r) (by grind)
    have hr0 : (0 : Rat) ≤ (r : Rat) := by exact_mod_cast Nat.zero_le r
    have hr : (r : Rat) ≤ 2700000 := by exact_mod_cast (show r ≤ 2700000 by omega)
    have hk : 0 < 1 / (k160 : Rat) := by
      rw [show (k160 : Rat) = 1461501637330902918203684832716283019655932542976 from rfl]
      grind
    have p1 := h1.prod v2 z1 z2 (show -1 ≤ cosU 1 by grind) hc1.2
    have p2 := h2.prod v1 z3 z4 (show -(1 / 3437000) ≤ sinU 1 by grind) (show sinU 1 ≤ 1 / 3437000 by grind)
    have p3 := h2.prod v2 z3 z4 (show -1 ≤ cosU 1 by grind) hc1.2
    have p4 := h1.prod v1 z1 z2 (show -(1 / 3437000) ≤ sinU 1 by grind) (show sinU 1 ≤ 1 / 3437000 by grind)
    have q1 := (p1.add p2).trans (sinU_step (n := r) (by omega)).symm
    have q2 := (p3.sub p4).trans (cosU_step (n := r) (by omega)).symm
    rw [ws_s, wc_s]
    have e1 : 1 * (1 / (k160 : Rat) + 1 / (k160 : Rat)) + 1 * (64 * (r : Rat) / (k160 : Rat)) + (1 * (1 / (k160 : Rat) + 1 / (k160 : Rat)) + 1 / 3437000 * (64 * (r : Rat) / (k160 : Rat))) + 1 / (k160 : Rat) ≤ 64 * ((r + 1 : Nat) : Rat) / (k160 : Rat) := by
      have h5 := rmul hr0 hr (Rat.le_of_lt hk) (show 1 / (k160 : Rat) ≤ 1 / (k160 : Rat) by exact Rat.le_refl)
      push_cast
      generalize (k160 : Rat) = k at *
      grind
    exact ⟨q1.le e1, q2.le e1⟩
theorem w_z : ∀ {r : Nat}, r ≤ 2700000 → Nr (ws r) (zs r) (16 * (r : Rat) / k96) ∧ Nr (wc r) (zc r) (16 * (r : Rat) / k96)
  | 0, _ => by
    rw [zs_0, zc_0, ws_0, wc_0]
    constructor
    · constructor <;> grind
    · constructor <;> grind
  | r + 1, h => by
    obtain ⟨h1, h2⟩ := w_z (r := r) (by omega)
    obtain ⟨u1, u2, u3, u4, u5, u6⟩ := unitW_z
    have wu := w_unit r
    obtain ⟨z1, z2⟩ := sq_one wu
    obtain ⟨z3, z4⟩ := sq_one (x := wc r) (y := ws r) (by grind)
    have hr0 : (0 : Rat) ≤ (r : Rat) := by exact_mod_cast Nat.zero_le r
    have hr : (r : Rat) ≤ 2700000 := by exact_mod_cast (show r ≤ 2700000 by omega)
    have hk : 0 < 1 / k96 := by unfold k96; grind
    have p1 := h1.prod u2 z1 z2 u5 u6
    have p2 := h2.prod u1 z3 z4 u3 u4
    have p3 := h2.prod u2 z3 z4 u5 u6
    have p4 := h1.prod u1 z1 z2 u3 u4
    have q1 := p1.add p2
    have q2 := p3.sub p4
    rw [ws_s, wc_s, zs_s, zc_s]
    have e1 : 1 * (1 / k96) + 1 * (16 * (r : Rat) / k96) + (1 * (1 / k96) + 1 / 3437000 * (16 * (r : Rat) / k96)) ≤ 16 * ((r + 1 : Nat) : Rat) / k96 := by
      have h5 := rmul hr0 hr (Rat.le_of_lt hk) (show 1 / k96 ≤ 1 / k96 by exact Rat.le_refl)
      push_cast
      grind
    exact ⟨q1.le e1, q2.le e1⟩
end Go.Proofs.YtkhhdpndcidmgaaGreat
/- The reference's quick sine of the first eighth of a turn. -/
namespace Go.Proofs.YtkhhdpndcidmgaaGreat
open Go.RowKit

def qkV (r : Nat) (c : Bool) : Int := altS h31 (higN h31 (quiX r) (quiX r)) 64 (if c then h31 * h31 else quiX r) (if c then 1 else 2)
attribute [irreducible] qkV
end Go.Proofs.YtkhhdpndcidmgaaGreat
/- The reference's sines and cosines over arcs. -/
namespace Go.Proofs.YtkhhdpndcidmgaaGreat
open Go.RowKit

end Go.Proofs.YtkhhdpndcidmgaaGreat
/- The reference's sine: exact values. -/
namespace Go.Proofs.YtkhhdpndcidmgaaGreat
open Go.RowKit

end Go.Proofs.YtkhhdpndcidmgaaGreat
/- The reference's quick sine of any angle, its floor, its ends. -/
namespace Go.Proofs.YtkhhdpndcidmgaaGreat
open Go.RowKit

end Go.Proofs.YtkhhdpndcidmgaaGreat
