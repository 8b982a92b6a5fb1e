/- Contracts and plain laws, several texts in one: Fk5; PlA -/
import Derived.Test.YtjfpgpipbooilaaGreatProg
import Derived.WalkKit
import Derived.WalkSpells
import Derived.WalkLawsBesides
import Derived.Lib.Hide
import Derived.BigQuiet
import Derived.Deep.Slices
import Derived.Deep.Fields
import Derived.ChangeSame
import Derived.WideShapes
import Derived.ChangeShapes
import Derived.Lib.SmallJoins
import Derived.Test.YtjfpgpipbooilaaGreatVAA
import Derived.Test.YtjfpgpipbooilaaGreatVAB
import Derived.Test.YtjfpgpipbooilaaGreatVBK
import Derived.Test.YtjfpgpipbooilaaGreatVBY
/- The law FinderKnows at arguments as the frame hands them. -/
namespace Go.Proofs.YtjfpgpipbooilaaGreat
open Go.RowKit Go.Shelf

theorem u16_in {n : Int} (hn : (Lit.int .u16 n).wf = true) : 0 ≤ n ∧ n ≤ 65535 := by
  simp [Lit.wf, IntKind.min, IntKind.max, IntKind.bits, IntKind.signed] at hn
  omega
theorem u8_in {n : Int} (hn : (Lit.int .u8 n).wf = true) : 0 ≤ n ∧ n ≤ 255 := by
  simp [Lit.wf, IntKind.min, IntKind.max, IntKind.bits, IntKind.signed] at hn
  omega
theorem law51_KnowsF (vp : Value) (lp : List PgV) {w : World} (hp : PgsD (InB w) w vp lp) (vs : Value) (ls : List StarV) (hv : SlG stR w vs ls) (wh : Int) (hi : (Lit.int .u8 wh).wf = true) (t : Int) (_ : (Lit.int .i64 t).wf = true)
    (u x : Int) (_ : (Lit.int .i64 u).wf = true) (_ : (Lit.int .i64 x).wf = true) (wd : Int) (hw : (Lit.int .u16 wd).wf = true) (n : Int) (hn : (Lit.int .u16 n).wf = true)
    (bf : Int) (hb : (Lit.int .u16 bf).wf = true) (af : Int) (hf : (Lit.int .u16 af).wf = true) :
    Calls Tryz.prog 4 #[vp, vs, .int .u8 wh, .int .i64 t, (.agg #[.int .i64 (u), .int .i64 (x)]), .int .u16 wd, .int .u16 n, .int .u16 bf, .int .u16 af] w fun e w' => e = .returned (.bool true) ∧ ∃ d, w' = bw w d :=
  law51_Knows vp vs lp ls wh t u x wd n bf af w hp (fun _ hb => hb) hv (u8_in hi).1 (u8_in hi).2 (u16_in hw).1 (u16_in hw).2 (u16_in hn).1 (u16_in hn).2 (u16_in hb).1 (u16_in hb).2 (u16_in hf).1 (u16_in hf).2
end Go.Proofs.YtjfpgpipbooilaaGreat
/- Opening a place off an argument. -/
namespace Go.Proofs.YtjfpgpipbooilaaGreat
open Go.RowKit

section
variable {H : Type} {enc : TypeId × Value → H} {P : Program}
end
end Go.Proofs.YtjfpgpipbooilaaGreat
