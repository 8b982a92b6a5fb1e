/- Contracts and plain laws, several texts in one: Lc9 -/
import GoSem.Core.Next
import Derived.Test.YtkhhdpndcidmgaaGreatSAE
import Derived.Test.YtkhhdpndcidmgaaGreatSAF
/- No whole point is near to the directions from 2590000 to 2700000, by the kernel. No program in sight. -/
namespace Go.Proofs.YtkhhdpndcidmgaaGreat

set_option maxRecDepth 100000
theorem rf_2700000 : rotF c1U s1U k160 2147483648 1267650600228229401496703205376 1033437718471923706666374484006904511252095952351 1033437718471923706666374484006904511252095701200 110000 999846728765118121970740841141310112032981272555 1065970710150425472860829290147147272157571110430 = true := by decide +kernel
end Go.Proofs.YtkhhdpndcidmgaaGreat
