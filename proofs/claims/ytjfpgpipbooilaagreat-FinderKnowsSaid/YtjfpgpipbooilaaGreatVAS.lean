/- Contracts and plain laws, several texts in one: Fa7 -/
import Derived.Test.YtjfpgpipbooilaaGreatProg
import Derived.WalkKit
import Derived.WalkSpells
import Derived.WalkLawsBesides
import Derived.Lib.Hide
import Derived.BigQuiet
import Derived.Test.YtjfpgpipbooilaaGreatVAA
import Derived.Test.YtjfpgpipbooilaaGreatVAB
import Derived.Test.YtjfpgpipbooilaaGreatVAQ
/- arctrig: a box's corners in an array. -/
namespace Go.Proofs.YtjfpgpipbooilaaGreat
set_option maxRecDepth 100000
open Go.RowKit

theorem ixB_0 (x0 x1 y0 y1 : Int) (W : World) : (Instr.index 142 (.agg #[.int .i64 x0, .int .i64 y0, .int .i64 x0, .int .i64 y1, .int .i64 x1, .int .i64 y0, .int .i64 x1, .int .i64 y1]) (.int .i64 0)).run Tryz.prog W = .ok (.agg #[.int .i64 x0, .int .i64 y0]) W := by kernel_rfl
theorem ixB_1 (x0 x1 y0 y1 : Int) (W : World) : (Instr.index 142 (.agg #[.int .i64 x0, .int .i64 y0, .int .i64 x0, .int .i64 y1, .int .i64 x1, .int .i64 y0, .int .i64 x1, .int .i64 y1]) (.int .i64 1)).run Tryz.prog W = .ok (.agg #[.int .i64 x0, .int .i64 y1]) W := by kernel_rfl
theorem ixB_2 (x0 x1 y0 y1 : Int) (W : World) : (Instr.index 142 (.agg #[.int .i64 x0, .int .i64 y0, .int .i64 x0, .int .i64 y1, .int .i64 x1, .int .i64 y0, .int .i64 x1, .int .i64 y1]) (.int .i64 2)).run Tryz.prog W = .ok (.agg #[.int .i64 x1, .int .i64 y0]) W := by kernel_rfl
theorem ixB_3 (x0 x1 y0 y1 : Int) (W : World) : (Instr.index 142 (.agg #[.int .i64 x0, .int .i64 y0, .int .i64 x0, .int .i64 y1, .int .i64 x1, .int .i64 y0, .int .i64 x1, .int .i64 y1]) (.int .i64 3)).run Tryz.prog W = .ok (.agg #[.int .i64 x1, .int .i64 y1]) W := by kernel_rfl
end Go.Proofs.YtjfpgpipbooilaaGreat
