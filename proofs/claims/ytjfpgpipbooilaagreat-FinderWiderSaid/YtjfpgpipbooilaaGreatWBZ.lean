/- Contracts and plain laws, several texts in one: Fe5; PlA -/
import Derived.Test.YtjfpgpipbooilaaGreatProg
import Derived.WalkKit
import Derived.WalkSpells
import Derived.WalkLawsBesides
import Derived.Lib.Hide
import Derived.BigQuiet
import Derived.Deep.Slices
import Derived.Deep.Fields
import Derived.ChangeSame
import Derived.WideShapes
import Derived.ChangeShapes
import Derived.Lib.SmallJoins
import Derived.Test.YtjfpgpipbooilaaGreatWAA
import Derived.Test.YtjfpgpipbooilaaGreatWAB
import Derived.Test.YtjfpgpipbooilaaGreatWBK
import Derived.Test.YtjfpgpipbooilaaGreatWBY
/- The law FinderWider at arguments as the frame hands them. -/
namespace Go.Proofs.YtjfpgpipbooilaaGreat
open Go.RowKit Go.Shelf

theorem law51_WiderF (vp : Value) (lp : List PgV) {w : World} (hp : PgsD (InB w) w vp lp) (vs : Value) (ls : List StarV) (hv : SlG stR w vs ls) (a b : Int) (_ : (Lit.int .i64 a).wf = true) (_ : (Lit.int .i64 b).wf = true)
    (u v : Int) (_ : (Lit.int .i64 u).wf = true) (_ : (Lit.int .i64 v).wf = true) (x y : Int) (_ : (Lit.int .i64 x).wf = true) (_ : (Lit.int .i64 y).wf = true)
    (h0 h1 : Int) (_ : (Lit.int .i64 h0).wf = true) (_ : (Lit.int .i64 h1).wf = true) (z0 z1 : Int) (_ : (Lit.int .i64 z0).wf = true) (_ : (Lit.int .i64 z1).wf = true) (n : Int) (hn : (Lit.int .u16 n).wf = true) :
    Calls Tryz.prog 3 #[vp, vs, (.agg #[.int .i64 (a), .int .i64 (b)]), (.agg #[.int .i64 (u), .int .i64 (v), .int .i64 (x), .int .i64 (y)]), (.agg #[.int .i64 (h0), .int .i64 (h1)]), (.agg #[.int .i64 (z0), .int .i64 (z1)]), .int .u16 n] w fun e w' => e = .returned (.bool true) ∧ ∃ d, w' = bw w d := by
  have h : 0 ≤ n ∧ n ≤ 65535 := by
    simp [Lit.wf, IntKind.min, IntKind.max, IntKind.bits, IntKind.signed] at hn
    omega
  exact law51_Wider vp vs lp ls a b u v x y h0 h1 z0 z1 n w hp (fun b hb => hb) hv h.1 h.2
end Go.Proofs.YtjfpgpipbooilaaGreat
/- Opening a place off an argument. -/
namespace Go.Proofs.YtjfpgpipbooilaaGreat
open Go.RowKit

section
variable {H : Type} {enc : TypeId × Value → H} {P : Program}
open Go.ChangeShapes Go.WideShapes Go.Deep in
theorem pl_elem {w : World} {t ti td : TypeId} {f0 f1 g0 g1 : Field} (hs : P.underlying t = some (.struct #[f0, f1]))
    (h0 : f0.type = td ∧ f0.offset = 0) (h1 : f1.type = td ∧ f1.offset = 2)
    (hd : P.underlying td = some (.struct #[g0, g1])) (hg0 : g0.type = ti ∧ g0.offset = 0) (hg1 : g1.type = ti ∧ g1.offset = 1)
    (cI : P.cellsOf ti = 1) (cD : P.cellsOf td = 2) (hI : P.underlying ti = some (.int .i64))
    (n : Nat) (cs : List Value) (y : DataW H × List MemPlace) (hf : DataW.trod enc P w 0 (fun _ => true) true n t cs = some y) (hl : cs.length = 4) :
    ∃ a b c d : Int, cs = [.int .i64 a, .int .i64 b, .int .i64 c, .int .i64 d] ∧ (Lit.int .i64 a).wf = true ∧ (Lit.int .i64 b).wf = true ∧ (Lit.int .i64 c).wf = true ∧ (Lit.int .i64 d).wf = true := by
  match cs, hl with
  | [c0, c1, c2, c3], _ =>
    obtain ⟨y0, y1, m, hx, _, e0, e1⟩ := trod_struct2 hs hf
    rw [h0.1, h0.2, cD] at e0
    rw [h1.1, h1.2, cD] at e1
    simp only [List.drop_zero, List.drop_succ_cons, List.take_succ_cons, List.take_zero] at e0 e1
    obtain ⟨z0, z1, m2, hx2, _, k0, k1⟩ := trod_struct2 hd e0
    obtain ⟨z2, z3, m3, hx3, _, k2, k3⟩ := trod_struct2 hd e1
    rw [hg0.1, hg0.2, cI] at k0 k2
    rw [hg1.1, hg1.2, cI] at k1 k3
    simp only [List.drop_zero, List.drop_succ_cons, List.take_succ_cons, List.take_zero] at k0 k1 k2 k3
    obtain ⟨x0, q0, _, w0⟩ := DataW.trod_int hI k0
    obtain ⟨x1, q1, _, w1⟩ := DataW.trod_int hI k1
    obtain ⟨x2, q2, _, w2⟩ := DataW.trod_int hI k2
    obtain ⟨x3, q3, _, w3⟩ := DataW.trod_int hI k3
    simp only [List.cons.injEq, and_true] at q0 q1 q2 q3
    subst q0 q1 q2 q3
    exact ⟨x0, x1, x2, x3, rfl, w0, w1, w2, w3⟩
end
set_option maxRecDepth 100000 in
theorem pl_arg {H : Type} {enc : TypeId × Value → H} {w : World} {r : Reach} {b0 : Nat} {v : Value} {d : DataW H} {ps : List MemPlace} (hv : Value.okWide Tryz.prog w r b0 28 v) (h : DataW.Trod enc Tryz.prog w 0 (fun _ => true) true 28 v d ps) :
    ∃ a b c d : Int, v = (.agg #[.int .i64 (a), .int .i64 (b), .int .i64 (c), .int .i64 (d)]) ∧ (Lit.int .i64 a).wf = true ∧ (Lit.int .i64 b).wf = true ∧ (Lit.int .i64 c).wf = true ∧ (Lit.int .i64 d).wf = true := by
  have hC : Tryz.prog.cellsOf 28 = 4 := by kernel_rfl
  obtain ⟨cs, rfl, hsz⟩ := Go.WideShapes.okWide_struct Tryz.underlying28 hv
  obtain ⟨l⟩ := cs
  obtain ⟨fuel, hf⟩ := h
  obtain ⟨x0, x1, x2, x3, hs, hw⟩ := pl_elem (ti := 3) (td := 26) Tryz.underlying28 ⟨rfl, rfl⟩ ⟨rfl, rfl⟩ Tryz.underlying26 ⟨rfl, rfl⟩ ⟨rfl, rfl⟩ (by kernel_rfl) (by kernel_rfl) Tryz.underlying3 fuel l _ hf (hsz.trans hC)
  exact ⟨x0, x1, x2, x3, by rw [hs], hw⟩
end Go.Proofs.YtjfpgpipbooilaaGreat
