/- Contracts and plain laws, several texts in one: TrA; WrB; WrC; WrD; Fa7; Wh4; Alm5; Wh5 -/
import Derived.Test.YtkhhdpndcidmgaaGreatProg
import Derived.WalkKit
import Derived.WalkSpells
import Derived.WalkLawsBesides
import Derived.Lib.Hide
import Derived.BigQuiet
import Derived.Deep.Slices
import Derived.Deep.Fields
import Derived.ChangeSame
import Derived.WideShapes
import Derived.ChangeShapes
import Derived.Lib.SmallJoins
import Derived.Test.YtkhhdpndcidmgaaGreatSAC
import Derived.Test.YtkhhdpndcidmgaaGreatSAD
import Derived.Test.YtkhhdpndcidmgaaGreatSAE
import Derived.Test.YtkhhdpndcidmgaaGreatSAU
import Derived.Test.YtkhhdpndcidmgaaGreatSAY
import Derived.Test.YtkhhdpndcidmgaaGreatSAZ
import Derived.Test.YtkhhdpndcidmgaaGreatSBC
import Derived.Test.YtkhhdpndcidmgaaGreatSBE
import Derived.Test.YtkhhdpndcidmgaaGreatSBF
import Derived.Test.YtkhhdpndcidmgaaGreatSBG
import Derived.Test.YtkhhdpndcidmgaaGreatSBJ
/- Opening a triangle off an argument. -/
namespace Go.Proofs.YtkhhdpndcidmgaaGreat
open Go.RowKit

section
variable {H : Type} {enc : TypeId × Value → H} {P : Program}
open Go.ChangeShapes Go.WideShapes Go.Deep in
theorem tri_elem {w : World} {t ti td : TypeId} {f0 f1 f2 g0 g1 : Field} (hs : P.underlying t = some (.struct #[f0, f1, f2]))
    (h0 : f0.type = td ∧ f0.offset = 0) (h1 : f1.type = td ∧ f1.offset = 2) (h2 : f2.type = td ∧ f2.offset = 4)
    (hd : P.underlying td = some (.struct #[g0, g1])) (hg0 : g0.type = ti ∧ g0.offset = 0) (hg1 : g1.type = ti ∧ g1.offset = 1)
    (cI : P.cellsOf ti = 1) (cD : P.cellsOf td = 2) (hI : P.underlying ti = some (.int .i64))
    (n : Nat) (cs : List Value) (y : DataW H × List MemPlace) (hf : DataW.trod enc P w 0 (fun _ => true) true n t cs = some y) (hl : cs.length = 6) :
    ∃ a b c d e f : Int, cs = [.int .i64 a, .int .i64 b, .int .i64 c, .int .i64 d, .int .i64 e, .int .i64 f] := by
  match cs, hl with
  | [c0, c1, c2, c3, c4, c5], _ =>
    obtain ⟨y0, y1, y2, m, hx, _, e0, e1, e2⟩ := trod_struct3 hs hf
    rw [h0.1, h0.2, cD] at e0
    rw [h1.1, h1.2, cD] at e1
    rw [h2.1, h2.2, cD] at e2
    simp only [List.drop_zero, List.drop_succ_cons, List.take_succ_cons, List.take_zero] at e0 e1 e2
    obtain ⟨z0, z1, m2, hx2, _, k0, k1⟩ := trod_struct2 hd e0
    obtain ⟨z2, z3, m3, hx3, _, k2, k3⟩ := trod_struct2 hd e1
    obtain ⟨z4, z5, m4, hx4, _, k4, k5⟩ := trod_struct2 hd e2
    rw [hg0.1, hg0.2, cI] at k0 k2 k4
    rw [hg1.1, hg1.2, cI] at k1 k3 k5
    simp only [List.drop_zero, List.drop_succ_cons, List.take_succ_cons, List.take_zero] at k0 k1 k2 k3 k4 k5
    obtain ⟨x0, q0, _, w0⟩ := DataW.trod_int hI k0
    obtain ⟨x1, q1, _, w1⟩ := DataW.trod_int hI k1
    obtain ⟨x2, q2, _, w2⟩ := DataW.trod_int hI k2
    obtain ⟨x3, q3, _, w3⟩ := DataW.trod_int hI k3
    obtain ⟨x4, q4, _, w4⟩ := DataW.trod_int hI k4
    obtain ⟨x5, q5, _, w5⟩ := DataW.trod_int hI k5
    simp only [List.cons.injEq, and_true] at q0 q1 q2 q3 q4 q5
    subst q0 q1 q2 q3 q4 q5
    exact ⟨x0, x1, x2, x3, x4, x5, rfl⟩
end
set_option maxRecDepth 100000 in
theorem tri_arg {H : Type} {enc : TypeId × Value → H} {w : World} {r : Reach} {b0 : Nat} {v : Value} {d : DataW H} {ps : List MemPlace} (hv : Value.okWide Tryz.prog w r b0 25 v) (h : DataW.Trod enc Tryz.prog w 0 (fun _ => true) true 25 v d ps) :
    ∃ a b c d e f : Int, v = (.agg #[.int .i64 (a), .int .i64 (b), .int .i64 (c), .int .i64 (d), .int .i64 (e), .int .i64 (f)]) := by
  have hC : Tryz.prog.cellsOf 25 = 6 := by kernel_rfl
  obtain ⟨cs, rfl, hsz⟩ := Go.WideShapes.okWide_struct Tryz.underlying25 hv
  obtain ⟨l⟩ := cs
  obtain ⟨fuel, hf⟩ := h
  obtain ⟨x0, x1, x2, x3, x4, x5, hs⟩ := tri_elem (ti := 3) (td := 23) Tryz.underlying25 ⟨rfl, rfl⟩ ⟨rfl, rfl⟩ ⟨rfl, rfl⟩ Tryz.underlying23 ⟨rfl, rfl⟩ ⟨rfl, rfl⟩ (by kernel_rfl) (by kernel_rfl) Tryz.underlying3 fuel l _ hf (hsz.trans hC)
  exact ⟨x0, x1, x2, x3, x4, x5, by rw [hs]⟩
end Go.Proofs.YtkhhdpndcidmgaaGreat
/- The finer rotation at the exact angles; every sine of it lies in the cell that the program finds, but for less than 10^-28. No program in sight. -/
namespace Go.Proofs.YtkhhdpndcidmgaaGreat
open Go.RowKit

def eW : Rat := 1 / 1000000000000000000000000000000000000000
theorem thirdU_ab : (2 * evI lisSU 1800000 - facU).natAbs * k160 ≤ 2 * facU := by decide +kernel
theorem sinU_third : Nr (sinU 1800000) (1 / 2) (1 / (k160 : Rat)) := by
  have h2 : sinU 1800000 * (facU : Rat) = ((evI lisSU 1800000 : Int) : Rat) := lisSU_ok 1800000
  have hM := eps_ofU (M := (2 * evI lisSU 1800000 - facU).natAbs) (W := 2 * facU) thirdU_ab
  have hW := facU_rat
  refine nr_of_int (W := 2 * (facU : Rat)) (x := 2 * evI lisSU 1800000 - facU) (by grind) ?_ (Nat.le_refl _) (by push_cast at hM; exact hM)
  rw [show (sinU 1800000 - 1 / 2) * (2 * (facU : Rat)) = 2 * (sinU 1800000 * (facU : Rat)) - (facU : Rat) by grind, h2]
  generalize evI lisSU 1800000 = u
  push_cast
  rfl
theorem w_third_e : 64 * ((1800000 : Nat) : Rat) / (k160 : Rat) + 1 / (k160 : Rat) ≤ 1 / 10000000000000000000000000000000000000000 := by decide +kernel
theorem w_third : Nr (ws 1800000) (1 / 2) (1 / 10000000000000000000000000000000000000000) := ((w_near (r := 1800000) (by decide)).1.trans sinU_third).le w_third_e
theorem w_qnat : -eW ≤ wc 5400000 ∧ wc 5400000 ≤ eW ∧ 1 - eW ≤ ws 5400000 ∧ ws 5400000 ≤ 1 := by
  obtain ⟨a1, a2⟩ := w_add 1800000 1800000
  rw [show (1800000 : Nat) + 1800000 = 3600000 from rfl] at a1 a2
  obtain ⟨b1, b2⟩ := w_add 3600000 1800000
  rw [show (3600000 : Nat) + 1800000 = 5400000 from rfl] at b1 b2
  have u := w_unit 1800000
  obtain ⟨t1, t2⟩ := w_third
  obtain ⟨c1, c2⟩ := sq_one (x := wc 1800000) (y := ws 1800000) (by grind)
  have hu := (sq_one (w_unit 5400000)).2
  refine ⟨?_, ?_, ?_, hu⟩
  all_goals clear hu
  all_goals rw [a1, a2] at b1 b2
  all_goals clear a1 a2
  all_goals first | rw [b1] | rw [b2]
  all_goals clear b1 b2
  all_goals generalize ws 1800000 = s at *
  all_goals generalize wc 1800000 = c at *
  all_goals obtain ⟨x, hx⟩ : ∃ x, s = 1 / 2 + x := ⟨s - 1 / 2, by grind⟩
  all_goals subst hx
  all_goals obtain ⟨e, he⟩ : ∃ e : Rat, e = 1 / 10000000000000000000000000000000000000000 := ⟨_, rfl⟩
  all_goals rw [← he] at t1 t2
  all_goals have e0 : 0 ≤ e ∧ e ≤ 1 / 1000 ∧ 10 * e = eW := by unfold eW; rw [he]; refine ⟨by grind, by grind, by grind⟩
  all_goals clear he
  all_goals rw [← e0.2.2]
  all_goals obtain ⟨e0, e1, -⟩ := e0
  all_goals obtain ⟨p1, p2⟩ := rabs (x := x) (y := x) (m := e) (f := e) (by grind) (by grind) (by grind) (by grind)
  all_goals obtain ⟨p3, p4⟩ := rabs (x := x) (y := 1 + x) (m := e) (f := 2) (by grind) (by grind) (by grind) (by grind)
  all_goals obtain ⟨p5, p6⟩ := rabs (x := c) (y := x * (1 + x)) (m := 1) (f := e * 2) c1 c2 p3 p4
  · have : (c * c - (1 / 2 + x) * (1 / 2 + x)) * c - ((1 / 2 + x) * c + c * (1 / 2 + x)) * (1 / 2 + x) = -4 * (c * (x * (1 + x))) := by grind
    rw [this]; grind
  · have : (c * c - (1 / 2 + x) * (1 / 2 + x)) * c - ((1 / 2 + x) * c + c * (1 / 2 + x)) * (1 / 2 + x) = -4 * (c * (x * (1 + x))) := by grind
    rw [this]; grind
  · obtain ⟨p7, p8⟩ := rabs (x := x * x) (y := 6 + 4 * x) (m := e * e) (f := 7) p1 p2 (by grind) (by grind)
    have : ((1 / 2 + x) * c + c * (1 / 2 + x)) * c + (c * c - (1 / 2 + x) * (1 / 2 + x)) * (1 / 2 + x) = 1 - x * x * (6 + 4 * x) := by grind
    have := rmul e0 e1 e0 (Rat.le_refl : e ≤ e)
    grind
theorem wq_near : -eW ≤ wC 5400000 ∧ wC 5400000 ≤ eW ∧ 1 - eW ≤ wS 5400000 ∧ wS 5400000 ≤ 1 := by
  have h := w_qnat
  rw [show (5400000 : Int) = ((5400000 : Nat) : Int) from rfl, wS_nat, wC_nat]
  exact h
theorem whalf_near : -(2 * eW) ≤ wS 10800000 ∧ wS 10800000 ≤ 2 * eW ∧ -1 ≤ wC 10800000 ∧ wC 10800000 ≤ -1 + 3 * eW := by
  obtain ⟨q1, q2, q3, q4⟩ := wq_near
  obtain ⟨a1, a2⟩ := W_add 5400000 5400000
  rw [show (5400000 : Int) + 5400000 = 10800000 from rfl] at a1 a2
  have hz := (W_in 10800000).2.1
  rw [a2] at hz
  rw [a1, a2]
  clear a1 a2
  generalize wS 5400000 = s at *
  generalize wC 5400000 = c at *
  have he : (0 : Rat) < eW ∧ eW ≤ 1 / 1000 := by unfold eW; constructor <;> grind
  generalize eW = e at *
  obtain ⟨p1, p2⟩ := rabs (x := s) (y := c) (m := 1) (f := e) (by grind) q4 q1 q2
  obtain ⟨p3, p4⟩ := rabs (x := c) (y := c) (m := e) (f := e) q1 q2 q1 q2
  have p5 := rmul (a := 1 - e) (b := s) (c := 1 - e) (d := s) (by grind) q3 (by grind) q3
  have p6 := rmul (a := e) (b := 1 / 1000) (c := e) (d := e) (by grind) (by grind) (by grind) (by grind)
  refine ⟨?_, ?_, hz, ?_⟩ <;> grind
theorem wturn_near : -(5 * eW) ≤ wS 21600000 ∧ wS 21600000 ≤ 5 * eW ∧ 1 - 7 * eW ≤ wC 21600000 ∧ wC 21600000 ≤ 1 := by
  obtain ⟨q1, q2, q3, q4⟩ := whalf_near
  obtain ⟨a1, a2⟩ := W_add 10800000 10800000
  rw [show (10800000 : Int) + 10800000 = 21600000 from rfl] at a1 a2
  have hz := (W_in 21600000).2.2
  rw [a2] at hz
  rw [a1, a2]
  clear a1 a2
  generalize wS 10800000 = s at *
  generalize wC 10800000 = c at *
  have he : (0 : Rat) < eW ∧ eW ≤ 1 / 1000 := by unfold eW; constructor <;> grind
  generalize eW = e at *
  obtain ⟨p1, p2⟩ := rabs (x := c) (y := s) (m := 1) (f := 2 * e) (by grind) (by grind) q1 q2
  obtain ⟨p3, p4⟩ := rabs (x := s) (y := s) (m := 2 * e) (f := 2 * e) q1 q2 q1 q2
  have p5 := rmul (a := 1 - 3 * e) (b := -c) (c := 1 - 3 * e) (d := -c) (by grind) (by grind) (by grind) (by grind)
  have p6 := rmul (a := e) (b := 1 / 1000) (c := e) (d := e) (by grind) (by grind) (by grind) (by grind)
  refine ⟨?_, ?_, ?_, hz⟩ <;> grind
theorem wS_refl (m : Int) : Nr (wS (10800000 - m)) (wS m) (6 * eW) := by
  obtain ⟨q1, q2, q3, q4⟩ := whalf_near
  obtain ⟨a1, -⟩ := W_sub 10800000 m
  obtain ⟨⟨b1, b2⟩, b3, b4⟩ := W_in m
  rw [a1]
  clear a1
  generalize wS 10800000 = s at *
  generalize wC 10800000 = c at *
  generalize wS m = x at *
  generalize wC m = y at *
  have he : (0 : Rat) < eW ∧ eW ≤ 1 / 1000 := by unfold eW; constructor <;> grind
  generalize eW = e at *
  obtain ⟨p1, p2⟩ := rabs (x := s) (y := y) (m := 2 * e) (f := 1) q1 q2 b3 b4
  obtain ⟨p3, p4⟩ := rabs (x := c + 1) (y := x) (m := 3 * e) (f := 1) (by grind) (by grind) b1 b2
  constructor <;> grind
theorem wS_turn (m : Int) : Nr (wS (m + 21600000)) (wS m) (12 * eW) := by
  obtain ⟨q1, q2, q3, q4⟩ := wturn_near
  obtain ⟨a1, -⟩ := W_add m 21600000
  obtain ⟨⟨b1, b2⟩, b3, b4⟩ := W_in m
  rw [a1]
  clear a1
  generalize wS 21600000 = s at *
  generalize wC 21600000 = c at *
  generalize wS m = x at *
  generalize wC m = y at *
  have he : (0 : Rat) < eW ∧ eW ≤ 1 / 1000 := by unfold eW; constructor <;> grind
  generalize eW = e at *
  obtain ⟨p1, p2⟩ := rabs (x := s) (y := y) (m := 5 * e) (f := 1) q1 q2 b3 b4
  obtain ⟨p3, p4⟩ := rabs (x := c - 1) (y := x) (m := 7 * e) (f := 1) (by grind) (by grind) b1 b2
  constructor <;> grind
theorem wz_q {n : Nat} (h : n ≤ 5400000) : Nr (ws n) (zs n) (1 / 1000000000000000000) := by
  have near : ∀ {r : Nat}, r ≤ 2700000 → Nr (ws r) (zs r) (1 / 1000000000000000000000) ∧ Nr (wc r) (zc r) (1 / 1000000000000000000000) := fun {r} hr => by
    have hr' : (r : Rat) ≤ 2700000 := by exact_mod_cast hr
    have : 16 * (r : Rat) / k96 ≤ 1 / 1000000000000000000000 := by unfold k96; grind
    exact ⟨(w_z hr).1.le this, (w_z hr).2.le this⟩
  by_cases c : n ≤ 2700000
  · exact (near c).1.le (by grind)
  · obtain ⟨b, rfl⟩ : ∃ b, n = 2700000 + b := ⟨n - 2700000, by omega⟩
    obtain ⟨h1, h2⟩ := near (r := 2700000) (by omega)
    obtain ⟨h3, h4⟩ := near (r := b) (by omega)
    obtain ⟨w1, w2⟩ := sq_one (w_unit 2700000)
    obtain ⟨w3, w4⟩ := sq_one (x := wc 2700000) (y := ws 2700000) (by have := w_unit 2700000; grind)
    obtain ⟨z1, z2⟩ := sq_one (z_unit b)
    obtain ⟨z3, z4⟩ := sq_one (x := zc b) (y := zs b) (by have := z_unit b; grind)
    rw [(w_add _ _).1, (z_add _ _).1]
    exact ((h1.prod h4 w1 w2 z3 z4).add (h2.prod h3 w3 w4 z1 z2)).le (by grind)
structure CellW (n : Int) (t : Rat) : Prop where
  lo : (bLo n : Rat) ≤ 1073741824 * wS n + t
  hi : 1073741824 * wS n ≤ (bHi n : Rat) + t
theorem CellW.same {n m : Int} {t d t' : Rat} (h : CellW n t) (hn : Nr (wS m) (wS n) d) (h1 : bLo m = bLo n) (h2 : bHi m = bHi n) (ht : t + 1073741824 * d ≤ t') : CellW m t' := by
  obtain ⟨a1, a2⟩ := h
  obtain ⟨n1, n2⟩ := hn
  have e1 : (bLo m : Rat) = (bLo n : Rat) := by rw [h1]
  have e2 : (bHi m : Rat) = (bHi n : Rat) := by rw [h2]
  constructor <;> simp only [e1, e2] <;> grind
theorem CellW.opp {n m : Int} {t d t' : Rat} (h : CellW n t) (hn : Nr (wS m) (-(wS n)) d) (h1 : bLo m = -(bHi n)) (h2 : bHi m = -(bLo n)) (ht : t + 1073741824 * d ≤ t') : CellW m t' := by
  obtain ⟨a1, a2⟩ := h
  obtain ⟨n1, n2⟩ := hn
  have e1 : (bLo m : Rat) = -(bHi n : Rat) := by rw [h1]; push_cast; rfl
  have e2 : (bHi m : Rat) = -(bLo n : Rat) := by rw [h2]; push_cast; rfl
  constructor <;> simp only [e1, e2] <;> grind
def wtw0 : Rat := 1 / 100000000000000000000000000000
def wtW : Rat := 1 / 10000000000000000000000000000
theorem cellw_1 {n : Int} (h0 : 0 ≤ n) (h1 : n ≤ 5400000) : CellW n wtw0 := by
  obtain ⟨m, rfl⟩ := Int.eq_ofNat_of_zero_le h0
  have hm : m ≤ 5400000 := by omega
  obtain ⟨e1, e2⟩ := b_one h0 h1
  rw [Int.toNat_natCast] at e1 e2
  have hu : hiQ m = (sinQ m : Int) + oneQ m := rfl
  have ho := oneQ_at m
  have exact : ∀ {k : Nat}, sinQ m = k → oneQ m = 0 → Nr (1073741824 * ws m) (k : Rat) wtw0 → CellW (m : Int) wtw0 := fun {k} h1 h2 h3 => by
    rw [h2, Int.add_zero, h1] at hu
    rw [h1] at e1
    rw [hu] at e2
    obtain ⟨n1, n2⟩ := h3
    constructor
    · rw [e1, wS_nat]; push_cast; exact n2
    · rw [e2, wS_nat]; push_cast; exact n1
  by_cases c0 : m = 0
  · subst c0
    refine exact (k := 0) sinQ_0 (by rw [ho]; rfl) ?_
    rw [ws_0]
    unfold wtw0
    constructor <;> grind
  by_cases c1 : m = 1800000
  · subst c1
    refine exact (k := 536870912) sinQ_h (by rw [ho, if_pos (.inr (.inl rfl))]) ?_
    obtain ⟨n1, n2⟩ := w_third
    generalize ws 1800000 = z at *
    unfold wtw0
    push_cast
    constructor <;> grind
  by_cases c2 : m = 5400000
  · subst c2
    refine exact (k := 1073741824) sinQ_q (by rw [ho, if_pos (.inr (.inr rfl))]) ?_
    obtain ⟨h1, h2, h3, h4⟩ := w_qnat
    unfold eW at h3
    generalize ws 5400000 = z at *
    unfold wtw0
    push_cast
    constructor <;> grind
  rw [if_neg (by omega)] at ho
  rw [ho] at hu
  rw [hu] at e2
  have hc := cell_1 h0 h1
  obtain ⟨n1, n2⟩ := wz_q hm
  have k1 := hc.up
  have k2 := hc.dn
  rw [e1, zS_nat] at k1
  rw [e2, zS_nat] at k2
  push_cast at k1 k2
  constructor
  · rw [e1, wS_nat]; push_cast; unfold wtw0; grind
  · rw [e2, wS_nat]; push_cast; unfold wtw0; grind
theorem cellw_2 {n : Int} (h0 : -5400000 ≤ n) (h1 : n ≤ 5400000) : CellW n wtw0 := by
  by_cases h : 0 ≤ n
  · exact cellw_1 h h1
  · obtain ⟨b1, b2⟩ := b_odd (n := -n) (by omega) (by omega)
    rw [Int.neg_neg] at b1 b2
    refine (cellw_1 (n := -n) (by omega) (by omega)).opp (d := 0) ?_ b1 b2 (by grind)
    rw [wS_neg]
    constructor <;> grind
def wtw1 : Rat := 1 / 50000000000000000000000000000
theorem cellw_3 {n : Int} (h0 : -5400000 ≤ n) (h1 : n ≤ 16200000) : CellW n wtw1 := by
  have he : wtw0 + 1073741824 * (6 * eW) ≤ wtw1 ∧ wtw0 + 1073741824 * 0 ≤ wtw1 := by unfold wtw0 wtw1 eW; constructor <;> grind
  by_cases h : n ≤ 5400000
  · refine (cellw_2 h0 h).same (d := 0) ?_ rfl rfl he.2
    constructor <;> grind
  · have hn := wS_refl (10800000 - n)
    rw [show 10800000 - (10800000 - n) = n by omega] at hn
    refine (cellw_2 (n := 10800000 - n) (by omega) (by omega)).same hn ?_ ?_ he.1
    · by_cases g : n ≤ 10800000
      · rw [(b_two (n := n) (by omega) g).1, (b_one (n := 10800000 - n) (by omega) (by omega)).1]
      · rw [(b_three (n := n) (by omega) h1).1, (b_four (n := 10800000 - n) (by omega) (by omega)).1, show (-(10800000 - n)) = n - 10800000 by omega]
    · by_cases g : n ≤ 10800000
      · rw [(b_two (n := n) (by omega) g).2, (b_one (n := 10800000 - n) (by omega) (by omega)).2]
      · rw [(b_three (n := n) (by omega) h1).2, (b_four (n := 10800000 - n) (by omega) (by omega)).2, show (-(10800000 - n)) = n - 10800000 by omega]
theorem cellw_all {n : Int} (h0 : -5400000 ≤ n) (h1 : n ≤ 27000000) : CellW n wtW := by
  have he : wtw1 + 1073741824 * (12 * eW) ≤ wtW ∧ wtw1 + 1073741824 * 0 ≤ wtW := by unfold wtw1 wtW eW; constructor <;> grind
  by_cases h : n ≤ 16200000
  · refine (cellw_3 h0 h).same (d := 0) ?_ rfl rfl he.2
    constructor <;> grind
  · have hn := wS_turn (n - 21600000)
    rw [show n - 21600000 + 21600000 = n by omega] at hn
    have hb := b_shift (n - 21600000) 1
    rw [show n - 21600000 + 21600000 * 1 = n by omega] at hb
    exact (cellw_3 (n := n - 21600000) (by omega) (by omega)).same hn hb.1 hb.2 he.1
theorem wC_quarter (n : Int) : Nr (wS (n + 5400000)) (wC n) (2 * eW) := by
  obtain ⟨q1, q2, q3, q4⟩ := wq_near
  obtain ⟨a1, -⟩ := W_add n 5400000
  obtain ⟨⟨b1, b2⟩, b3, b4⟩ := W_in n
  rw [a1]
  clear a1
  generalize wS 5400000 = s at *
  generalize wC 5400000 = c at *
  generalize wS n = x at *
  generalize wC n = y at *
  have he : (0 : Rat) < eW ∧ eW ≤ 1 / 1000 := by unfold eW; constructor <;> grind
  generalize eW = e at *
  obtain ⟨p1, p2⟩ := rabs (x := x) (y := c) (m := 1) (f := e) b1 b2 q1 q2
  obtain ⟨p3, p4⟩ := rabs (x := y) (y := s - 1) (m := 1) (f := e) b3 b4 (by grind) (by grind)
  constructor <;> grind
end Go.Proofs.YtkhhdpndcidmgaaGreat
/- A direction between two neighbouring whole angles: the sine and the cosine of an arc that holds both contain those of the direction. No program in sight. -/
namespace Go.Proofs.YtkhhdpndcidmgaaGreat
open Go.RowKit

def wtY : Rat := 1 / 1000000000000000000000000000
def wtZ : Rat := 1 / 100000000000000000000000000
theorem wt_Y : wtW + 1073741824 * (12 * eW) ≤ wtY ∧ wtW + 1073741824 * 0 ≤ wtY ∧ wtY + 1073741824 * (2 * eW) ≤ wtZ ∧ wtY ≤ wtZ := by unfold wtW wtY wtZ eW; refine ⟨?_, ?_, ?_, ?_⟩ <;> grind
theorem cellw_far {n : Int} (h0 : -5400000 ≤ n) (h1 : n ≤ 48600000) : CellW n wtY := by
  by_cases h : n ≤ 27000000
  · refine (cellw_all h0 h).same (d := 0) ?_ rfl rfl wt_Y.2.1
    constructor <;> grind
  · have hn := wS_turn (n - 21600000)
    rw [show n - 21600000 + 21600000 = n by omega] at hn
    have hb := b_shift (n - 21600000) 1
    rw [show n - 21600000 + 21600000 * 1 = n by omega] at hb
    exact (cellw_all (n := n - 21600000) (by omega) (by omega)).same hn hb.1 hb.2 wt_Y.1
theorem sin_InY {lo hi n : Int} (h1 : lo ≤ n) (h2 : n ≤ hi) (h3 : -5400000 ≤ n) (h4 : n ≤ 48600000) : InR (encL lo hi) (encH lo hi) (wS n) wtZ := by
  have hp := enc_part h1 (Int.le_refl n) h2
  rw [(enc_point n).1, (enc_point n).2] at hp
  have hc := cellw_far h3 h4
  exact InR.mono ⟨hc.lo, hc.hi⟩ hp.1 hp.2 wt_Y.2.2.2
theorem cos_InY {lo hi n : Int} (h1 : lo ≤ n) (h2 : n ≤ hi) (h3 : -10800000 ≤ n) (h4 : n ≤ 43200000) : InR (cosL lo hi) (cosH lo hi) (wC n) wtZ := by
  have hp := enc_part (lo := lo + 5400000) (hi := hi + 5400000) (show lo + 5400000 ≤ n + 5400000 by omega) (Int.le_refl _) (show n + 5400000 ≤ hi + 5400000 by omega)
  rw [(enc_point _).1, (enc_point _).2] at hp
  have hc := cellw_far (n := n + 5400000) (by omega) (by omega)
  have h : InR (encL (lo + 5400000) (hi + 5400000)) (encH (lo + 5400000) (hi + 5400000)) (wS (n + 5400000)) wtY := InR.mono ⟨hc.lo, hc.hi⟩ hp.1 hp.2 Rat.le_refl
  exact h.near (wC_quarter n).symm wt_Y.2.2.1
theorem sqnn (x : Rat) : 0 ≤ x * x := by
  rcases (Rat.le_total : (0 : Rat) ≤ x ∨ x ≤ 0) with g | g
  · exact rmul0 g g
  · have := rmul0 (show 0 ≤ -x by grind) (show 0 ≤ -x by grind); grind
theorem len_near {q r c t s e : Rat} (q0 : 0 ≤ q) (r0 : 0 ≤ r) (s0 : 0 ≤ s) (hs : t ≤ s * s) (c0 : 0 ≤ c) (e0 : 0 ≤ e) (c1 : c ≤ q * q * e) (h1 : r * r ≤ q * q - c + t) (h2 : q * q - c ≤ r * r + t) : q - r ≤ q * e + s ∧ r - q ≤ s := by
  constructor
  · rcases (Rat.le_total : q - r ≤ q * e + s ∨ q * e + s ≤ q - r) with g | g
    · exact g
    · obtain ⟨d, hd⟩ : ∃ d, d = q - r - q * e := ⟨_, rfl⟩
      have qe := rmul0 q0 e0
      have p1 := rmul0 (show 0 ≤ q - r by grind) r0
      have p2 := rmul0 (show 0 ≤ d by grind) (show 0 ≤ q - d by grind)
      have p3 := rmul0 (show 0 ≤ d - s by grind) s0
      have p4 : d * q = q * q - r * q - q * q * e := by rw [hd]; grind
      have p5 : (d - s) * (d - s) ≤ 0 := by grind
      have p6 : d - s = 0 := by
        rcases (Rat.le_total : d - s ≤ 0 ∨ 0 ≤ d - s) with k | k
        · grind
        · rcases Rat.le_iff_lt_or_eq.1 k with k | k
          · have := Rat.mul_pos k k; grind
          · exact k.symm
      grind
  · rcases (Rat.le_total : r - q ≤ s ∨ s ≤ r - q) with g | g
    · exact g
    · obtain ⟨d, hd⟩ : ∃ d, d = r - q := ⟨_, rfl⟩
      have p1 := rmul0 (show 0 ≤ d by grind) q0
      have p3 := rmul0 (show 0 ≤ d - s by grind) s0
      have p4 : d * (d + 2 * q) = r * r - q * q := by rw [hd]; grind
      have p5 : (d - s) * (d - s) ≤ 0 := by grind
      have p6 : d - s = 0 := by
        rcases (Rat.le_total : d - s ≤ 0 ∨ 0 ≤ d - s) with k | k
        · grind
        · rcases Rat.le_iff_lt_or_eq.1 k with k | k
          · have := Rat.mul_pos k k; grind
          · exact k.symm
      grind
structure Cone (k j : Int) (x y a b : Rat) : Prop where
  kj : j = k ∨ j = k + 1
  a0 : 0 ≤ a
  b0 : 0 ≤ b
  x : x = a * wC k + b * wC j
  y : y = a * wS k + b * wS j
theorem one_w : 0 ≤ 1 - wC 1 ∧ 1 - wC 1 ≤ 43 / 1000000000000000 ∧ 29 / 100000000 ≤ wS 1 ∧ wS 1 ≤ 3 / 10000000 := by decide +kernel
def wtA : Rat := 1 / 1000000000000000000000000000000000000
def wtE : Rat := 1 / 30000000000000
theorem Cone.len {k j : Int} {x y a b r : Rat} (h : Cone k j x y a b) (r0 : 0 ≤ r) (hr : Nr (r * r) (x * x + y * y) wtA) : a + b - r ≤ (a + b) * (22 / 1000000000000000) + 1 / 1000000000000000000 ∧ r - (a + b) ≤ 1 / 1000000000000000000 := by
  obtain ⟨kj, a0, b0, hx, hy⟩ := h
  have hs := (W_sub j k).2
  have u1 := W_unit k
  have u2 := W_unit j
  obtain ⟨o1, o2⟩ : 0 ≤ 1 - wC (j - k) ∧ 1 - wC (j - k) ≤ 43 / 1000000000000000 := by
    rcases kj with rfl | rfl
    · rw [show j - j = 0 by omega, show wC 0 = 1 from rfl]
      constructor <;> grind
    · rw [show k + 1 - k = 1 by omega]
      exact ⟨one_w.1, one_w.2.1⟩
  have hl : x * x + y * y = (a + b) * (a + b) - 2 * (a * b) * (1 - wC (j - k)) := by rw [hx, hy, hs]; grind
  rw [hl] at hr
  clear hl hx hy hs u1 u2
  generalize 1 - wC (j - k) = o at *
  obtain ⟨h1, h2⟩ := hr
  have ab := rmul0 a0 b0
  have p := rmul0 ab o1
  have sq : 0 ≤ (a - b) * (a - b) := sqnn _
  have p2 := rmul (a := 2 * (a * b)) (b := (a + b) * (a + b) / 2) (c := o) (d := 43 / 1000000000000000) (by grind) (by grind) o1 o2
  refine len_near (c := 2 * (a * b) * o) (t := wtA) (by grind) r0 (by grind) (by unfold wtA; grind) (by grind) (by grind) (by grind) (by grind) (by grind)
theorem interp {l h y r E : Rat} (lh : l ≤ h) (r0 : 0 ≤ r) (e0 : 0 ≤ E) (h1 : l * r ≤ y + E) (h2 : y ≤ h * r + E) : ∃ s, l ≤ s ∧ s ≤ h ∧ Nr (s * r) y E := by
  by_cases c1 : y ≤ l * r
  · exact ⟨l, Rat.le_refl, lh, by constructor <;> grind⟩
  by_cases c2 : h * r ≤ y
  · exact ⟨h, lh, Rat.le_refl, by constructor <;> grind⟩
  have rp : 0 < r := by
    rcases Rat.le_iff_lt_or_eq.1 r0 with g | g
    · exact g
    · subst g; grind
  have e : y / r * r = y := Rat.div_mul_cancel (by grind)
  refine ⟨y / r, ?_, ?_, by rw [e]; constructor <;> grind⟩
  · refine Rat.le_of_mul_le_mul_right (c := r) ?_ rp
    rw [e]; grind
  · refine Rat.le_of_mul_le_mul_right (c := r) ?_ rp
    rw [e]; grind
theorem cone_in {l h : Int} {u v y a b r : Rat} (hl : -1073741824 ≤ l) (lh : l ≤ h) (hh : h ≤ 1073741824) (hu : InR l h u wtZ) (hv : InR l h v wtZ) (a0 : 0 ≤ a) (b0 : 0 ≤ b) (hy : y = a * u + b * v) (r0 : 0 ≤ r) (r1 : r ≤ 101 / 100)
    (q1 : a + b - r ≤ (a + b) * (22 / 1000000000000000) + 1 / 1000000000000000000) (q2 : r - (a + b) ≤ 1 / 1000000000000000000) : ∃ s, InR l h s 0 ∧ Nr (s * r) y wtE := by
  obtain ⟨u1, u2⟩ := hu
  obtain ⟨v1, v2⟩ := hv
  have L := castle hl
  have M := castle lh
  have H := castle hh
  push_cast at L H
  obtain ⟨q, hq⟩ : ∃ q, q = a + b := ⟨_, rfl⟩
  have p1 := rmul0 a0 (show 0 ≤ 1073741824 * u + wtZ - l by grind)
  have p2 := rmul0 b0 (show 0 ≤ 1073741824 * v + wtZ - l by grind)
  have p3 := rmul0 a0 (show 0 ≤ h + wtZ - 1073741824 * u by grind)
  have p4 := rmul0 b0 (show 0 ≤ h + wtZ - 1073741824 * v by grind)
  have z0 : (0 : Rat) ≤ wtZ ∧ wtZ ≤ 1 / 1000000000000000 := by unfold wtZ; constructor <;> grind
  have qb : q ≤ 102 / 100 := by grind
  have k1 := rabs (x := (l : Rat)) (y := q - r) (m := 1073741824) (f := 23 / 1000000000000000) L (by grind) (by grind) (by grind)
  have k2 := rabs (x := (h : Rat)) (y := q - r) (m := 1073741824) (f := 23 / 1000000000000000) (by grind) H (by grind) (by grind)
  have k3 := rmul (a := q) (b := 102 / 100) (c := wtZ) (d := 1 / 1000000000000000) (by grind) qb z0.1 z0.2
  have e1 : (l : Rat) * r = (a + b) * l - l * (q - r) := by rw [hq]; grind
  have e2 : a * (1073741824 * u + wtZ - l) + b * (1073741824 * v + wtZ - l) = 1073741824 * y + q * wtZ - (a + b) * l := by rw [hq, hy]; grind
  have e3 : (h : Rat) * r = (a + b) * h - h * (q - r) := by rw [hq]; grind
  have e4 : a * (h + wtZ - 1073741824 * u) + b * (h + wtZ - 1073741824 * v) = (a + b) * h + q * wtZ - 1073741824 * y := by rw [hq, hy]; grind
  obtain ⟨k11, k12⟩ := k1
  obtain ⟨k21, k22⟩ := k2
  have f1 : (l : Rat) * r ≤ 1073741824 * y + 1073741824 * wtE := by
    generalize (l : Rat) * (q - r) = A at *
    generalize a * (1073741824 * u + wtZ - l) = B at *
    generalize b * (1073741824 * v + wtZ - l) = C at *
    generalize (a + b) * (l : Rat) = D at *
    generalize (l : Rat) * r = F at *
    generalize q * wtZ = G at *
    clear k21 k22 e3 e4 hy hq q1 q2 p3 p4
    unfold wtE; grind
  have f2 : 1073741824 * y ≤ (h : Rat) * r + 1073741824 * wtE := by
    generalize (h : Rat) * (q - r) = A at *
    generalize a * (h + wtZ - 1073741824 * u) = B at *
    generalize b * (h + wtZ - 1073741824 * v) = C at *
    generalize (a + b) * (h : Rat) = D at *
    generalize (h : Rat) * r = F at *
    generalize q * wtZ = G at *
    clear k11 k12 e1 e2 hy hq q1 q2 p1 p2 f1
    unfold wtE; grind
  obtain ⟨s, s1, s2, s3⟩ := interp (l := (l : Rat)) (h := (h : Rat)) (y := 1073741824 * y) (r := r) (E := 1073741824 * wtE) M r0 (by unfold wtE; grind) f1 f2
  refine ⟨s / 1073741824, ⟨by grind, by grind⟩, ?_⟩
  obtain ⟨s3, s4⟩ := s3
  constructor <;> grind
theorem Cone.enc {n M k j : Int} (hn : n ≤ k) (hM : j ≤ M) (h0 : -5400000 ≤ n) (h1 : M ≤ 43200000) {x y a b r : Rat} (h : Cone k j x y a b) (r0 : 0 ≤ r) (r1 : r ≤ 101 / 100) (hr : Nr (r * r) (x * x + y * y) wtA) :
    (∃ s, InR (encL n M) (encH n M) s 0 ∧ Nr (s * r) y wtE) ∧ ∃ c, InR (cosL n M) (cosH n M) c 0 ∧ Nr (c * r) x wtE := by
  obtain ⟨q1, q2⟩ := h.len r0 hr
  obtain ⟨kj, a0, b0, hx, hy⟩ := h
  have e := enc_in (lo := n) (hi := M)
  have c := cos_in2 n M
  exact ⟨cone_in e.1 e.2.1 e.2.2 (sin_InY hn (by omega) (by omega) (by omega)) (sin_InY (n := j) (by omega) hM (by omega) (by omega)) a0 b0 hy r0 r1 q1 q2, cone_in c.1 c.2.1 c.2.2 (cos_InY hn (by omega) (by omega) (by omega)) (cos_InY (n := j) (by omega) hM (by omega) (by omega)) a0 b0 hx r0 r1 q1 q2⟩
end Go.Proofs.YtkhhdpndcidmgaaGreat
/- The altitude's arc: its sine contains the altitude's sine, its cosine the altitude's cosine. No program in sight. -/
namespace Go.Proofs.YtkhhdpndcidmgaaGreat
open Go.RowKit

theorem sin_InP {lo hi n : Int} (h1 : lo ≤ n) (h2 : n ≤ hi) : InR (encL lo hi) (encH lo hi) (wS (n % 21600000)) wtZ := by
  have hp := enc_part h1 (Int.le_refl n) h2
  rw [(enc_point n).1, (enc_point n).2] at hp
  have hc := cellw_far (n := n % 21600000) (by omega) (by omega)
  have hb := b_shift (n % 21600000) (n / 21600000)
  rw [show n % 21600000 + 21600000 * (n / 21600000) = n by omega] at hb
  have h : InR (bLo n) (bHi n) (wS (n % 21600000)) wtY := by rw [hb.1, hb.2]; exact ⟨hc.lo, hc.hi⟩
  exact h.mono hp.1 hp.2 wt_Y.2.2.2
theorem cos_InP {lo hi n : Int} (h1 : lo ≤ n) (h2 : n ≤ hi) : InR (cosL lo hi) (cosH lo hi) (wC (n % 21600000)) wtZ := by
  have hp := enc_part (lo := lo + 5400000) (hi := hi + 5400000) (show lo + 5400000 ≤ n + 5400000 by omega) (Int.le_refl _) (show n + 5400000 ≤ hi + 5400000 by omega)
  rw [(enc_point _).1, (enc_point _).2] at hp
  have hc := cellw_far (n := n % 21600000 + 5400000) (by omega) (by omega)
  have hb := b_shift (n % 21600000 + 5400000) (n / 21600000)
  rw [show n % 21600000 + 5400000 + 21600000 * (n / 21600000) = n + 5400000 by omega] at hb
  have h : InR (bLo (n + 5400000)) (bHi (n + 5400000)) (wS (n % 21600000 + 5400000)) wtY := by rw [hb.1, hb.2]; exact ⟨hc.lo, hc.hi⟩
  exact (InR.mono h hp.1 hp.2 Rat.le_refl).near (wC_quarter _).symm wt_Y.2.2.1
theorem root_le {C D s : Rat} (c0 : 0 ≤ C) (s0 : 0 ≤ s) (hd : -s ≤ D) (h : C * C ≤ D * D + s * s) : C ≤ D + 3 * s := by
  rcases (Rat.le_total : C ≤ D + 3 * s ∨ D + 3 * s ≤ C) with g | g
  · exact g
  · obtain ⟨d, hd2⟩ : ∃ d, d = D + s := ⟨_, rfl⟩
    have p1 := rmul0 (show 0 ≤ d by grind) s0
    have p2 := rmul0 (show 0 ≤ C - (D + 3 * s) by grind) (show 0 ≤ C + (D + 3 * s) by grind)
    have p3 := rmul0 s0 s0
    have p4 : (D + 3 * s) * (D + 3 * s) = D * D + 6 * (d * s) + 3 * (s * s) := by rw [hd2]; grind
    have p5 : s * s = 0 := by grind
    have p6 : s = 0 := by
      rcases Rat.le_iff_lt_or_eq.1 s0 with k | k
      · have := Rat.mul_pos k k; grind
      · exact k.symm
    subst p6
    have p7 : C * C ≤ D * D := by grind
    rcases (Rat.le_total : C ≤ D ∨ D ≤ C) with k | k
    · grind
    · have p8 := rmul0 (show 0 ≤ C - D by grind) (show 0 ≤ C - D by grind)
      have p9 := rmul0 (show 0 ≤ C - D by grind) (show 0 ≤ D by grind)
      have p10 : (C - D) * (C - D) = 0 := by grind
      have p11 : C - D = 0 := by
        rcases Rat.le_iff_lt_or_eq.1 (show 0 ≤ C - D by grind) with k2 | k2
        · have := Rat.mul_pos k2 k2; grind
        · exact k2.symm
      grind
def wtV : Rat := 1 / 10000000000000000000000000
def wtU : Rat := 1 / 1000000
def s16 : Rat := 1 / 10000000000000000
def e33 : Rat := 1 / 1000000000000000000000000000000000
theorem num_V : wtV + wtW ≤ 1073741824 * e33 ∧ 2 * e33 + e33 * e33 + wtA ≤ s16 * s16 ∧ 1073741824 * e33 + wtZ ≤ wtU ∧ 1073741824 * (3 * s16) + wtZ ≤ wtU ∧ 0 ≤ e33 ∧ 0 ≤ s16 ∧ 0 ≤ wtA ∧ 0 ≤ wtZ ∧ 0 ≤ wtU ∧ 0 ≤ wtV := by unfold wtV wtW wtU wtZ wtA s16 e33; decide +kernel
theorem wS_nn {n : Int} (h0 : 0 ≤ n) (h1 : n ≤ 10800000) : -(1 / 1000000000000000000000000000000000000) ≤ wS n := by
  have hc := (cellw_all (n := n) (by omega) (by omega)).lo
  have hb : 0 ≤ bLo n := by
    by_cases h : n ≤ 5400000
    · rw [(b_one h0 h).1]; omega
    · rw [(b_two (n := n) (by omega) h1).1]; omega
  have := castle hb
  push_cast at this
  unfold wtW at hc
  grind
theorem wC_nn {n : Int} (h0 : -5400000 ≤ n) (h1 : n ≤ 5400000) : -(1 / 100000000000000000000000000000000000) ≤ wC n := by
  have h := wS_nn (n := n + 5400000) (by omega) (by omega)
  obtain ⟨q1, q2⟩ := wC_quarter n
  unfold eW at q1 q2
  grind
theorem arc_sc {n m : Int} {S C : Rat} (b1 : -5400000 ≤ n) (b2 : n ≤ m) (b3 : m ≤ 5400000) (en : wS n ≤ S + e33) (em : S ≤ wS m + e33) (c0 : 0 ≤ C) (hc : Nr (C * C) (1 - S * S) wtA) :
    InR (encL n m) (encH n m) S wtU ∧ InR (cosL n m) (cosH n m) C wtU := by
  have sn := sin_InY (lo := n) (hi := m) (n := n) (Int.le_refl _) b2 b1 (by omega)
  have sm := sin_InY (lo := n) (hi := m) (n := m) b2 (Int.le_refl _) (by omega) (by omega)
  have kn := cos_InY (lo := n) (hi := m) (n := n) (Int.le_refl _) b2 (by omega) (by omega)
  have km := cos_InY (lo := n) (hi := m) (n := m) b2 (Int.le_refl _) (by omega) (by omega)
  obtain ⟨v1, v2, v3, v4, v5, v6, v7, v8, v9, v10⟩ := num_V
  refine ⟨⟨?_, ?_⟩, ?_, ?_⟩
  · have := sn.lo; grind
  · have := sm.hi; grind
  · obtain ⟨hc1, hc2⟩ := hc
    rcases (Rat.le_total : (0 : Rat) ≤ S ∨ S ≤ 0) with g | g
    · have p := rmul g em g em
      have u := W_unit m
      have z := (W_in m).1
      have q := rmul0 v5 (show 0 ≤ 1 - wS m by grind)
      have hk := km.lo
      rcases (Rat.le_total : (0 : Rat) ≤ wC m ∨ wC m ≤ 0) with d | d
      · have := root_le (C := wC m) (D := C) (s := s16) d v6 (by grind) (by grind)
        grind
      · grind
    · have p := rmul (a := -S) (b := -(wS n) + e33) (c := -S) (d := -(wS n) + e33) (by grind) (by grind) (by grind) (by grind)
      have u := W_unit n
      have z := (W_in n).1
      have q := rmul0 v5 (show 0 ≤ 1 + wS n by grind)
      have hk := kn.lo
      rcases (Rat.le_total : (0 : Rat) ≤ wC n ∨ wC n ≤ 0) with d | d
      · have := root_le (C := wC n) (D := C) (s := s16) d v6 (by grind) (by grind)
        grind
      · grind
  · obtain ⟨hc1, hc2⟩ := hc
    have sq : 0 ≤ S * S := sqnn S
    have ee := rmul0 v5 v5
    by_cases c : n ≤ 0 ∧ 0 ≤ m
    · have k0 := (cos_InY (lo := n) (hi := m) (n := 0) c.1 c.2 (by omega) (by omega)).hi
      rw [show wC 0 = 1 from rfl] at k0
      have := root_le (C := C) (D := 1) (s := s16) c0 v6 (by grind) (by grind)
      grind
    by_cases c2 : 0 < n
    · have hn := wS_nn (n := n) (by omega) (by omega)
      have gn := wC_nn (n := n) b1 (by omega)
      have u := W_unit n
      have z := (W_in n).1
      have q := rmul0 v5 (show 0 ≤ 1 - wS n by grind)
      have hk := kn.hi
      have key : C * C ≤ wC n * wC n + s16 * s16 := by
        rcases (Rat.le_total : (0 : Rat) ≤ wS n - e33 ∨ wS n - e33 ≤ 0) with d | d
        · have p := rmul (a := wS n - e33) (b := S) (c := wS n - e33) (d := S) d (by grind) d (by grind)
          grind
        · obtain ⟨p1, p2⟩ := rabs (x := wS n) (y := wS n) (m := e33) (f := e33) (by unfold e33; grind) (by grind) (by unfold e33; grind) (by grind)
          grind
      have := root_le (C := C) (D := wC n) (s := s16) c0 v6 (by unfold s16; grind) key
      grind
    · have hn := wS_nn (n := -m) (by omega) (by omega)
      rw [wS_neg] at hn
      have gn := wC_nn (n := m) (by omega) b3
      have u := W_unit m
      have z := (W_in m).1
      have q := rmul0 v5 (show 0 ≤ 1 + wS m by grind)
      have hk := km.hi
      have key : C * C ≤ wC m * wC m + s16 * s16 := by
        rcases (Rat.le_total : (0 : Rat) ≤ -(wS m) - e33 ∨ -(wS m) - e33 ≤ 0) with d | d
        · have p := rmul (a := -(wS m) - e33) (b := -S) (c := -(wS m) - e33) (d := -S) d (by grind) d (by grind)
          grind
        · obtain ⟨p1, p2⟩ := rabs (x := wS m) (y := wS m) (m := e33) (f := e33) (by grind) (by unfold e33; grind) (by grind) (by unfold e33; grind)
          grind
      have := root_le (C := C) (D := wC m) (s := s16) c0 v6 (by unfold s16; grind) key
      grind
theorem as_sc {S0 S1 : Int} {S C : Rat} (hE : asE S0 S1 = 0) (h : InR S0 S1 S wtV) (h0 : -1 ≤ S) (h1 : S ≤ 1) (c0 : 0 ≤ C) (hc : Nr (C * C) (1 - S * S) wtA) (hb : -5400000 ≤ asL S0 S1 ∧ asL S0 S1 ≤ asH S0 S1 ∧ asH S0 S1 ≤ 5400000) :
    InR (encL (asL S0 S1) (asH S0 S1)) (encH (asL S0 S1) (asH S0 S1)) S wtU ∧ InR (cosL (asL S0 S1) (asH S0 S1)) (cosH (asL S0 S1) (asH S0 S1)) C wtU := by
  obtain ⟨v1, v2, v3, v4, v5, v6, v7, v8, v9, v10⟩ := num_V
  obtain ⟨a1, a2⟩ := as_encl hE h h0 h1 v10
  obtain ⟨b1, b2, b3⟩ := hb
  have cn := (cellw_all (n := asL S0 S1) b1 (by omega)).hi
  have cm := (cellw_all (n := asH S0 S1) (by omega) (by omega)).lo
  exact arc_sc b1 b2 b3 (by grind) (by grind) c0 hc
end Go.Proofs.YtkhhdpndcidmgaaGreat
/- arctrig: a box's corners in an array. -/
namespace Go.Proofs.YtkhhdpndcidmgaaGreat
set_option maxRecDepth 100000
open Go.RowKit

theorem ixB_0 (x0 x1 y0 y1 : Int) (W : World) : (Instr.index 117 (.agg #[.int .i64 x0, .int .i64 y0, .int .i64 x0, .int .i64 y1, .int .i64 x1, .int .i64 y0, .int .i64 x1, .int .i64 y1]) (.int .i64 0)).run Tryz.prog W = .ok (.agg #[.int .i64 x0, .int .i64 y0]) W := by kernel_rfl
theorem ixB_1 (x0 x1 y0 y1 : Int) (W : World) : (Instr.index 117 (.agg #[.int .i64 x0, .int .i64 y0, .int .i64 x0, .int .i64 y1, .int .i64 x1, .int .i64 y0, .int .i64 x1, .int .i64 y1]) (.int .i64 1)).run Tryz.prog W = .ok (.agg #[.int .i64 x0, .int .i64 y1]) W := by kernel_rfl
theorem ixB_2 (x0 x1 y0 y1 : Int) (W : World) : (Instr.index 117 (.agg #[.int .i64 x0, .int .i64 y0, .int .i64 x0, .int .i64 y1, .int .i64 x1, .int .i64 y0, .int .i64 x1, .int .i64 y1]) (.int .i64 2)).run Tryz.prog W = .ok (.agg #[.int .i64 x1, .int .i64 y0]) W := by kernel_rfl
theorem ixB_3 (x0 x1 y0 y1 : Int) (W : World) : (Instr.index 117 (.agg #[.int .i64 x0, .int .i64 y0, .int .i64 x0, .int .i64 y1, .int .i64 x1, .int .i64 y0, .int .i64 x1, .int .i64 y1]) (.int .i64 3)).run Tryz.prog W = .ok (.agg #[.int .i64 x1, .int .i64 y1]) W := by kernel_rfl
end Go.Proofs.YtkhhdpndcidmgaaGreat
/- (*almanac.Book).during where there is a track; body. -/
namespace Go.Proofs.YtkhhdpndcidmgaaGreat
open Go.RowKit Go.Shelf

end Go.Proofs.YtkhhdpndcidmgaaGreat
/- (*almanac.Book).Where at Aries, and Aries. -/
namespace Go.Proofs.YtkhhdpndcidmgaaGreat
open Go.RowKit

end Go.Proofs.YtkhhdpndcidmgaaGreat
/- (*almanac.Book).Where in full. -/
namespace Go.Proofs.YtkhhdpndcidmgaaGreat
open Go.RowKit Go.Shelf

end Go.Proofs.YtkhhdpndcidmgaaGreat
