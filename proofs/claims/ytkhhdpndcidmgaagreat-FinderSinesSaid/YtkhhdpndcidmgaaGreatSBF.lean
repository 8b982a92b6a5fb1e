/- Contracts and plain laws, several texts in one: AlP; Nq1; Nq2; Nd1; Lb3 -/
import Derived.Test.YtkhhdpndcidmgaaGreatProg
import Derived.WalkKit
import Derived.WalkSpells
import Derived.WalkLawsBesides
import Derived.Lib.Hide
import Derived.BigQuiet
import GoSem.Core.Next
import Derived.Test.YtkhhdpndcidmgaaGreatSAC
import Derived.Test.YtkhhdpndcidmgaaGreatSAD
import Derived.Test.YtkhhdpndcidmgaaGreatSAE
import Derived.Test.YtkhhdpndcidmgaaGreatSAF
import Derived.Test.YtkhhdpndcidmgaaGreatSAX
import Derived.Test.YtkhhdpndcidmgaaGreatSBC
import Derived.Test.YtkhhdpndcidmgaaGreatSBE
/- The sine of an altitude: what is reckoned. No program in sight. -/
namespace Go.Proofs.YtkhhdpndcidmgaaGreat
open Go.RowKit

def ssL (a0 a1 b0 b1 : Int) : Int := mulL (encL a0 a1) (encH a0 a1) (encL b0 b1) (encH b0 b1)
def ssH (a0 a1 b0 b1 : Int) : Int := mulH (encL a0 a1) (encH a0 a1) (encL b0 b1) (encH b0 b1)
theorem ss_in (a0 a1 b0 b1 : Int) : -1073741824 ≤ ssL a0 a1 b0 b1 ∧ ssL a0 a1 b0 b1 ≤ ssH a0 a1 b0 b1 ∧ ssH a0 a1 b0 b1 ≤ 1073741824 := by
  obtain ⟨p1, p2, p3⟩ := @enc_in a0 a1
  obtain ⟨q1, q2, q3⟩ := @enc_in b0 b1
  exact mul_unit p1 p2 p3 q1 q2 q3
def c3L (a0 a1 b0 b1 c0 c1 : Int) : Int := mulL (ccL a0 a1 b0 b1) (ccH a0 a1 b0 b1) (cosL c0 c1) (cosH c0 c1)
def c3H (a0 a1 b0 b1 c0 c1 : Int) : Int := mulH (ccL a0 a1 b0 b1) (ccH a0 a1 b0 b1) (cosL c0 c1) (cosH c0 c1)
theorem c3_in (a0 a1 b0 b1 c0 c1 : Int) : -1073741824 ≤ c3L a0 a1 b0 b1 c0 c1 ∧ c3L a0 a1 b0 b1 c0 c1 ≤ c3H a0 a1 b0 b1 c0 c1 ∧ c3H a0 a1 b0 b1 c0 c1 ≤ 1073741824 := by
  obtain ⟨p1, p2, p3⟩ := cc_in a0 a1 b0 b1
  obtain ⟨q1, q2, q3⟩ := cos_in2 c0 c1
  exact mul_unit p1 p2 p3 q1 q2 q3
def altS0 (a0 a1 b0 b1 c0 c1 : Int) : Int := ssL a0 a1 b0 b1 + c3L a0 a1 b0 b1 c0 c1
def altS1 (a0 a1 b0 b1 c0 c1 : Int) : Int := ssH a0 a1 b0 b1 + c3H a0 a1 b0 b1 c0 c1
theorem alt_fx (a0 a1 b0 b1 c0 c1 : Int) : fxB (altS0 a0 a1 b0 b1 c0 c1) (altS1 a0 a1 b0 b1 c0 c1) = true := by
  have h1 := ss_in a0 a1 b0 b1
  have h2 := c3_in a0 a1 b0 b1 c0 c1
  unfold altS0 altS1
  rw [fxB_iff]
  omega
end Go.Proofs.YtkhhdpndcidmgaaGreat
/- The reference's quick side: what it decides is right. No walk. -/
namespace Go.Proofs.YtkhhdpndcidmgaaGreat

end Go.Proofs.YtkhhdpndcidmgaaGreat
/- The reference's quick side. -/
namespace Go.Proofs.YtkhhdpndcidmgaaGreat
open Go.RowKit

end Go.Proofs.YtkhhdpndcidmgaaGreat
/- The reference's side of a direction: plain law; sign; the sines by limbs. -/
namespace Go.Proofs.YtkhhdpndcidmgaaGreat
open Go.RowKit

def sgI (z : Int) : Int := if z < 0 then -1 else if 0 < z then 1 else 0
def sideV (n : Nat) (x y : Int) : Int := if n = 0 then sgI (-y) else if n = 2700000 then sgI (x - y) else if n = 5400000 then sgI x else if 0 < crU n x y then 1 else -1
end Go.Proofs.YtkhhdpndcidmgaaGreat
/- No whole point is near to the directions up to 190000 thousandths of a minute, by the kernel. No program in sight. -/
namespace Go.Proofs.YtkhhdpndcidmgaaGreat
set_option maxRecDepth 100000

def FarN (a s c : Nat) : Prop := FarTo c1U s1U k160 2147483648 1267650600228229401496703205376 a s c
theorem far_1 : FarN 1 425133593245199460169970897845407932666872 1461501637330841085028993473485354317854231948077 := ⟨by decide +kernel, fun r h1 h2 => by omega⟩
theorem far_10000 : FarN 10000 4251329936940783775392260813667500399981857843 1461495454017793841685857527086231697413274335901 := far_1.next 9999 _ _ (by decide +kernel) rfl
theorem far_20000 : FarN 20000 8502623900874820732330221791291652617636133120 1461476904130787266489906083007572049443636236772 := far_10000.next 10000 _ _ (by decide +kernel) rfl
theorem far_30000 : FarN 30000 12753845919099752851535644502602646984011550463 1461445987826844712972547094162030713865379830791 := far_20000.next 10000 _ _ (by decide +kernel) rfl
theorem far_40000 : FarN 40000 17004960019521997136469490118363218055370463892 1461402705367567239345804880632027178477424460283 := far_30000.next 10000 _ _ (by decide +kernel) rfl
theorem far_50000 : FarN 50000 21255930230961126685691004962648781531689345911 1461347057119193228116367732382751977371441922224 := far_40000.next 10000 _ _ (by decide +kernel) rfl
theorem far_60000 : FarN 60000 25506720583454244038465211361374766791586027051 1461279043552595287126909031150840008655417152786 := far_50000.next 10000 _ _ (by decide +kernel) rfl
theorem far_70000 : FarN 70000 29757295108560344218136642322809387412552491956 1461198665243276265225595365493595948319558664347 := far_60000.next 10000 _ _ (by decide +kernel) rfl
theorem far_80000 : FarN 80000 34007617839664664897874331853920309501375769377 1461105922871364382597495406170949774830481647886 := far_70000.next 10000 _ _ (by decide +kernel) rfl
theorem far_90000 : FarN 90000 38257652812283021113502037918487565677369366191 1461000817221607475799094676178499077867166778390 := far_80000.next 10000 _ _ (by decide +kernel) rfl
theorem far_100000 : FarN 100000 42507364064366121948258431256953862795141050495 1460883349183366357544612368235261057425069679045 := far_90000.next 10000 _ _ (by decide +kernel) rfl
theorem far_110000 : FarN 110000 46756715636603866614484529407571797972305128016 1460753519750607291300306968968191106376482316119 := far_100000.next 10000 _ _ (by decide +kernel) rfl
theorem far_120000 : FarN 120000 51005671572729617357409990002762858499948146364 1460611330021893580750447580044693361503950831348 := far_110000.next 10000 _ _ (by decide +kernel) rfl
theorem far_130000 : FarN 130000 55254195919824446606405999288576561421485234595 1460456781200376274206117418705841243093634499907 := far_120000.next 10000 _ _ (by decide +kernel) rfl
theorem far_140000 : FarN 140000 59502252728621355799290399169226991096616149642 1460289874593783984035504970172991588579325798109 := far_130000.next 10000 _ _ (by decide +kernel) rfl
theorem far_150000 : FarN 150000 63749806053809463305510387069045841545139769039 1460110611614411821201826588870158741259683505377 := far_140000.next 10000 _ _ (by decide +kernel) rfl
theorem far_160000 : FarN 160000 67996819954338158874289595502659210747332138115 1459918993779109445002511940960790713535762143858 := far_150000.next 10000 _ _ (by decide +kernel) rfl
theorem far_170000 : FarN 170000 72243258493721222034109610238296156166245683059 1459715022709268228110770483983501903884519248423 := far_160000.next 10000 _ _ (by decide +kernel) rfl
theorem far_180000 : FarN 180000 76489085740340901870201014932108439244277254151 1459498700130807537028143127036613272561783872985 := far_170000.next 10000 _ _ (by decide +kernel) rfl
theorem far_190000 : FarN 190000 80734265767751955607045853522192981506880891910 1459270027874160128064128243663018747495825859769 := far_180000.next 10000 _ _ (by decide +kernel) rfl
end Go.Proofs.YtkhhdpndcidmgaaGreat
