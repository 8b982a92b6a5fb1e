/- Contracts and plain laws, several texts in one: Hz8 -/
import Derived.Test.YthjfadfebhjhbaaGreatProg
import Derived.WalkKit
import Derived.WalkSpells
import Derived.WalkLawsBesides
import Derived.Lib.Hide
import Derived.BigQuiet
import Derived.Test.YthjfadfebhjhbaaGreatQAA
import Derived.Test.YthjfadfebhjhbaaGreatQAB
import Derived.Test.YthjfadfebhjhbaaGreatQAO
import Derived.Test.YthjfadfebhjhbaaGreatQBN
import Derived.Test.YthjfadfebhjhbaaGreatQBP
/- The laws HorizonSides and HorizonOrder. -/
namespace Go.Proofs.YthjfadfebhjhbaaGreat
open Go.RowKit Go.Shelf

end Go.Proofs.YthjfadfebhjhbaaGreat
