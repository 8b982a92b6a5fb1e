/- Contracts and plain laws, several texts in one: OpG; Opn; StA; AlP; Trk; Inc1; Rf1 -/
import Derived.Test.YtkhhdpndcidmgaaGreatProg
import Derived.WalkKit
import Derived.WalkSpells
import Derived.WalkLawsBesides
import Derived.Lib.Hide
import Derived.BigQuiet
import Derived.Deep.Slices
import Derived.Deep.Fields
import Derived.ChangeSame
import Derived.WideShapes
import Derived.ChangeShapes
import Derived.Lib.SmallJoins
import Derived.Deep.RegionWith
import Derived.Test.YtkhhdpndcidmgaaGreatTAE
import Derived.Test.YtkhhdpndcidmgaaGreatTAF
import Derived.Test.YtkhhdpndcidmgaaGreatTAI
import Derived.Test.YtkhhdpndcidmgaaGreatTAJ
import Derived.Test.YtkhhdpndcidmgaaGreatTAV
import Derived.Test.YtkhhdpndcidmgaaGreatTAW
import Derived.Test.YtkhhdpndcidmgaaGreatTAY
/- A slice of records off an argument: whatever the record is. -/
namespace Go.Proofs.YtkhhdpndcidmgaaGreat
open Go.RowKit

section
variable {H : Type} {enc : TypeId × Value → H} {α : Type} {R : RecT α} {P : Program}
end
end Go.Proofs.YtkhhdpndcidmgaaGreat
/- Opening rows of records off an argument: a slice reads as a list of records, each with what its cells say. -/
namespace Go.Proofs.YtkhhdpndcidmgaaGreat
open Go.RowKit

section
variable {H : Type} {enc : TypeId × Value → H} {P : Program}

open Go.ChangeShapes Go.WideShapes Go.Deep in
theorem st_elem {w : World} {t ts ti : TypeId} {f0 f1 f2 f3 : Field} (hs : P.underlying t = some (.struct #[f0, f1, f2, f3])) (hone : oneCellFields P #[f0, f1, f2, f3] = true)
    (ht : f0.type = ts ∧ f1.type = ti ∧ f2.type = ti ∧ f3.type = ti) (hS : P.underlying ts = some .string) (hI : P.underlying ti = some (.int .i64))
    (n : Nat) (cs : List Value) (y : DataW H × List MemPlace) (hf : DataW.trod enc P w 0 (fun _ => true) true n t cs = some y) (hl : cs.length = 4) : ∃ z, cs = stR.enc z ∧ stR.wf z ∧ True := by
  match cs, hl with
  | [c0, c1, c2, c3], _ =>
    obtain ⟨xs, m, _, hx, _, hlen, hg⟩ := DataW.trod_struct hs hf
    obtain ⟨o0, k0⟩ := hone_of hone 0 f0 rfl
    obtain ⟨o1, k1⟩ := hone_of hone 1 f1 rfl
    obtain ⟨o2, k2⟩ := hone_of hone 2 f2 rfl
    obtain ⟨o3, k3⟩ := hone_of hone 3 f3 rfl
    match xs, hlen with
    | [y0, y1, y2, y3], _ =>
      have e0 : DataW.trod enc P w 0 (fun _ => true) true m f0.type [c0] = some y0 := by simpa [Value.cells, o0, k0] using hg 0 f0 rfl
      have e1 : DataW.trod enc P w 0 (fun _ => true) true m f1.type [c1] = some y1 := by simpa [Value.cells, o1, k1] using hg 1 f1 rfl
      have e2 : DataW.trod enc P w 0 (fun _ => true) true m f2.type [c2] = some y2 := by simpa [Value.cells, o2, k2] using hg 2 f2 rfl
      have e3 : DataW.trod enc P w 0 (fun _ => true) true m f3.type [c3] = some y3 := by simpa [Value.cells, o3, k3] using hg 3 f3 rfl
      obtain ⟨t0, t1, t2, t3⟩ := ht
      rw [t0] at e0; rw [t1] at e1; rw [t2] at e2; rw [t3] at e3
      obtain ⟨s, q0, _, ws⟩ := DataW.trod_string hS e0
      obtain ⟨x1, q1, _, w1⟩ := DataW.trod_int hI e1
      obtain ⟨x2, q2, _, w2⟩ := DataW.trod_int hI e2
      obtain ⟨x3, q3, _, w3⟩ := DataW.trod_int hI e3
      simp only [List.cons.injEq, and_true] at q0 q1 q2 q3
      subst q0 q1 q2 q3
      exact ⟨⟨s, x1, x2, x3⟩, rfl, ⟨ws, w1, w2, w3⟩, trivial⟩
end
end Go.Proofs.YtkhhdpndcidmgaaGreat
/- A star off an argument. -/
namespace Go.Proofs.YtkhhdpndcidmgaaGreat
open Go.RowKit

set_option maxRecDepth 100000 in
theorem star_arg {H : Type} {enc : TypeId × Value → H} {w : World} {r : Reach} {b0 : Nat} {v : Value} {d : DataW H} {ps : List MemPlace} (hv : Value.okWide Tryz.prog w r b0 42 v) (h : DataW.Trod enc Tryz.prog w 0 (fun _ => true) true 42 v d ps) : ∃ z : StarV, v = .agg #[.string z.s, .int .i64 z.sha, .int .i64 z.dec, .int .i64 z.mag] ∧ stR.wf z := by
  have hC : Tryz.prog.cellsOf 42 = 4 := by kernel_rfl
  obtain ⟨cs, rfl, hsz⟩ := Go.WideShapes.okWide_struct Tryz.underlying42 hv
  obtain ⟨l⟩ := cs
  obtain ⟨fuel, hf⟩ := h
  obtain ⟨z, hz, hw, -⟩ := st_elem (ts := 9) (ti := 3) Tryz.underlying42 (by kernel_rfl) ⟨rfl, rfl, rfl, rfl⟩ Tryz.underlying9 Tryz.underlying3 fuel l _ hf (hsz.trans hC)
  exact ⟨z, by rw [hz]; rfl, hw⟩
end Go.Proofs.YtkhhdpndcidmgaaGreat
/- The sine of an altitude: what is reckoned. No program in sight. -/
namespace Go.Proofs.YtkhhdpndcidmgaaGreat
open Go.RowKit

def ssL (a0 a1 b0 b1 : Int) : Int := mulL (encL a0 a1) (encH a0 a1) (encL b0 b1) (encH b0 b1)
def ssH (a0 a1 b0 b1 : Int) : Int := mulH (encL a0 a1) (encH a0 a1) (encL b0 b1) (encH b0 b1)
theorem ss_in (a0 a1 b0 b1 : Int) : -1073741824 ≤ ssL a0 a1 b0 b1 ∧ ssL a0 a1 b0 b1 ≤ ssH a0 a1 b0 b1 ∧ ssH a0 a1 b0 b1 ≤ 1073741824 := by
  obtain ⟨p1, p2, p3⟩ := @enc_in a0 a1
  obtain ⟨q1, q2, q3⟩ := @enc_in b0 b1
  exact mul_unit p1 p2 p3 q1 q2 q3
def c3L (a0 a1 b0 b1 c0 c1 : Int) : Int := mulL (ccL a0 a1 b0 b1) (ccH a0 a1 b0 b1) (cosL c0 c1) (cosH c0 c1)
def c3H (a0 a1 b0 b1 c0 c1 : Int) : Int := mulH (ccL a0 a1 b0 b1) (ccH a0 a1 b0 b1) (cosL c0 c1) (cosH c0 c1)
theorem c3_in (a0 a1 b0 b1 c0 c1 : Int) : -1073741824 ≤ c3L a0 a1 b0 b1 c0 c1 ∧ c3L a0 a1 b0 b1 c0 c1 ≤ c3H a0 a1 b0 b1 c0 c1 ∧ c3H a0 a1 b0 b1 c0 c1 ≤ 1073741824 := by
  obtain ⟨p1, p2, p3⟩ := cc_in a0 a1 b0 b1
  obtain ⟨q1, q2, q3⟩ := cos_in2 c0 c1
  exact mul_unit p1 p2 p3 q1 q2 q3
def altS0 (a0 a1 b0 b1 c0 c1 : Int) : Int := ssL a0 a1 b0 b1 + c3L a0 a1 b0 b1 c0 c1
def altS1 (a0 a1 b0 b1 c0 c1 : Int) : Int := ssH a0 a1 b0 b1 + c3H a0 a1 b0 b1 c0 c1
theorem alt_fx (a0 a1 b0 b1 c0 c1 : Int) : fxB (altS0 a0 a1 b0 b1 c0 c1) (altS1 a0 a1 b0 b1 c0 c1) = true := by
  have h1 := ss_in a0 a1 b0 b1
  have h2 := c3_in a0 a1 b0 b1 c0 c1
  unfold altS0 altS1
  rw [fxB_iff]
  omega
end Go.Proofs.YtkhhdpndcidmgaaGreat
/- Lists of ints and tracks that came in: how they read; opening them off a row. -/
namespace Go.Proofs.YtkhhdpndcidmgaaGreat
open Go.RowKit

section
variable {H : Type} {enc : TypeId × Value → H} {P : Program}
structure TrkV where
  s : ByteArray
  g : List Int
  d : List Int
  p : Int
  q : Int
  r : Int
end
end Go.Proofs.YtkhhdpndcidmgaaGreat
/- Contracts of package increments: Linear, Increment, and their references. -/
namespace Go.Proofs.YtkhhdpndcidmgaaGreat
open Go.RowKit

end Go.Proofs.YtkhhdpndcidmgaaGreat
/- Increments at an instant: the functions that pieces hands on. -/
namespace Go.Proofs.YtkhhdpndcidmgaaGreat
open Go.RowKit

end Go.Proofs.YtkhhdpndcidmgaaGreat
