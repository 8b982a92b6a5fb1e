/- Contracts and plain laws, several texts in one: Ru; Rv; As7; As8; As9; F4M -/
import Derived.Test.YtnnmfdeeicpdlaaGreatProg
import Derived.WalkKit
import Derived.WalkSpells
import Derived.WalkLawsBesides
import Derived.Lib.Hide
import Derived.BigQuiet
import Derived.Test.YtnnmfdeeicpdlaaGreatSAA
import Derived.Test.YtnnmfdeeicpdlaaGreatSAG
import Derived.Test.YtnnmfdeeicpdlaaGreatSAX
/- The reference's sine: exact values. -/
namespace Go.Proofs.YtnnmfdeeicpdlaaGreat
open Go.RowKit

end Go.Proofs.YtnnmfdeeicpdlaaGreat
/- The reference's quick sine of any angle, its floor, its ends. -/
namespace Go.Proofs.YtnnmfdeeicpdlaaGreat
open Go.RowKit

end Go.Proofs.YtnnmfdeeicpdlaaGreat
/- The reference's arcsines: Below, Rough, guess, Floor, Ceil. -/
namespace Go.Proofs.YtnnmfdeeicpdlaaGreat
open Go.RowKit

end Go.Proofs.YtnnmfdeeicpdlaaGreat
/- The reference's arcsines: Floor. -/
namespace Go.Proofs.YtnnmfdeeicpdlaaGreat
open Go.RowKit

end Go.Proofs.YtnnmfdeeicpdlaaGreat
/- The reference's arcsines: Valid, Ceil, Asin, Acos, Ahav. -/
namespace Go.Proofs.YtnnmfdeeicpdlaaGreat
open Go.RowKit

end Go.Proofs.YtnnmfdeeicpdlaaGreat
/- The reference's intervals: Mul, Sub, Add, without average's functions. -/
namespace Go.Proofs.YtnnmfdeeicpdlaaGreat
open Go.RowKit

end Go.Proofs.YtnnmfdeeicpdlaaGreat
