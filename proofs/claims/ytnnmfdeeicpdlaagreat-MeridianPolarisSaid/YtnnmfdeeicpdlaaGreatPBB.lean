/- Contracts and plain laws, several texts in one: LcZ; Ne2; Ne3; Ne4; Fk1; ChC; CoW; Fc1; Row; Trk; Pg1 -/
import GoSem.Core.Next
import Derived.Test.YtnnmfdeeicpdlaaGreatProg
import Derived.WalkKit
import Derived.WalkSpells
import Derived.WalkLawsBesides
import Derived.Lib.Hide
import Derived.BigQuiet
import Derived.Deep.Slices
import Derived.Deep.AppendLies
import Derived.Maps.AppendAt
import Derived.Laws.AppendOwnNone
import Derived.Laws.OwnMore
import Derived.WideShapes
import Derived.Lib.SmallJoins
import Derived.Deep.Fields
import Derived.ChangeSame
import Derived.ChangeShapes
import Derived.Test.YtnnmfdeeicpdlaaGreatPAA
import Derived.Test.YtnnmfdeeicpdlaaGreatPAD
import Derived.Test.YtnnmfdeeicpdlaaGreatPAE
import Derived.Test.YtnnmfdeeicpdlaaGreatPAF
import Derived.Test.YtnnmfdeeicpdlaaGreatPAG
import Derived.Test.YtnnmfdeeicpdlaaGreatPAH
import Derived.Test.YtnnmfdeeicpdlaaGreatPAN
import Derived.Test.YtnnmfdeeicpdlaaGreatPAQ
import Derived.Test.YtnnmfdeeicpdlaaGreatPAS
import Derived.Test.YtnnmfdeeicpdlaaGreatPAT
import Derived.Test.YtnnmfdeeicpdlaaGreatPAU
import Derived.Test.YtnnmfdeeicpdlaaGreatPAV
import Derived.Test.YtnnmfdeeicpdlaaGreatPAW
import Derived.Test.YtnnmfdeeicpdlaaGreatPAX
import Derived.Test.YtnnmfdeeicpdlaaGreatPAY
import Derived.Test.YtnnmfdeeicpdlaaGreatPAZ
import Derived.Test.YtnnmfdeeicpdlaaGreatPBA
/- No whole point is near to any direction, but the half one. No program in sight. -/
namespace Go.Proofs.YtnnmfdeeicpdlaaGreat

set_option maxRecDepth 100000
theorem far_2700000 : FarN 2700000 1033437718471923706666374484006904511252095952351 1033437718471923706666374484006904511252095701200 := by
  have h := far_190000
  have h := h.next 10000 _ _ rf_200000 (b := 200000) rfl
  have h := h.next 10000 _ _ rf_210000 (b := 210000) rfl
  have h := h.next 10000 _ _ rf_220000 (b := 220000) rfl
  have h := h.next 10000 _ _ rf_230000 (b := 230000) rfl
  have h := h.next 10000 _ _ rf_240000 (b := 240000) rfl
  have h := h.next 10000 _ _ rf_250000 (b := 250000) rfl
  have h := h.next 10000 _ _ rf_260000 (b := 260000) rfl
  have h := h.next 10000 _ _ rf_270000 (b := 270000) rfl
  have h := h.next 10000 _ _ rf_280000 (b := 280000) rfl
  have h := h.next 10000 _ _ rf_290000 (b := 290000) rfl
  have h := h.next 10000 _ _ rf_300000 (b := 300000) rfl
  have h := h.next 10000 _ _ rf_310000 (b := 310000) rfl
  have h := h.next 10000 _ _ rf_320000 (b := 320000) rfl
  have h := h.next 10000 _ _ rf_330000 (b := 330000) rfl
  have h := h.next 10000 _ _ rf_340000 (b := 340000) rfl
  have h := h.next 10000 _ _ rf_350000 (b := 350000) rfl
  have h := h.next 10000 _ _ rf_360000 (b := 360000) rfl
  have h := h.next 10000 _ _ rf_370000 (b := 370000) rfl
  have h := h.next 10000 _ _ rf_380000 (b := 380000) rfl
  have h := h.next 10000 _ _ rf_390000 (b := 390000) rfl
  have h := h.next 10000 _ _ rf_400000 (b := 400000) rfl
  have h := h.next 10000 _ _ rf_410000 (b := 410000) rfl
  have h := h.next 10000 _ _ rf_420000 (b := 420000) rfl
  have h := h.next 10000 _ _ rf_430000 (b := 430000) rfl
  have h := h.next 10000 _ _ rf_440000 (b := 440000) rfl
  have h := h.next 10000 _ _ rf_450000 (b := 450000) rfl
  have h := h.next 10000 _ _ rf_460000 (b := 460000) rfl
  have h := h.next 10000 _ _ rf_470000 (b := 470000) rfl
  have h := h.next 10000 _ _ rf_480000 (b := 480000) rfl
  have h := h.next 10000 _ _ rf_490000 (b := 490000) rfl
  have h := h.next 10000 _ _ rf_500000 (b := 500000) rfl
  have h := h.next 10000 _ _ rf_510000 (b := 510000) rfl
  have h := h.next 10000 _ _ rf_520000 (b := 520000) rfl
  have h := h.next 10000 _ _ rf_530000 (b := 530000) rfl
  have h := h.next 10000 _ _ rf_540000 (b := 540000) rfl
  have h := h.next 10000 _ _ rf_550000 (b := 550000) rfl
  have h := h.next 10000 _ _ rf_560000 (b := 560000) rfl
  have h := h.next 10000 _ _ rf_570000 (b := 570000) rfl
  have h := h.next 10000 _ _ rf_580000 (b := 580000) rfl
  have h := h.next 10000 _ _ rf_590000 (b := 590000) rfl
  have h := h.next 10000 _ _ rf_600000 (b := 600000) rfl
  have h := h.next 10000 _ _ rf_610000 (b := 610000) rfl
  have h := h.next 10000 _ _ rf_620000 (b := 620000) rfl
  have h := h.next 10000 _ _ rf_630000 (b := 630000) rfl
  have h := h.next 10000 _ _ rf_640000 (b := 640000) rfl
  have h := h.next 10000 _ _ rf_650000 (b := 650000) rfl
  have h := h.next 10000 _ _ rf_660000 (b := 660000) rfl
  have h := h.next 10000 _ _ rf_670000 (b := 670000) rfl
  have h := h.next 10000 _ _ rf_680000 (b := 680000) rfl
  have h := h.next 10000 _ _ rf_690000 (b := 690000) rfl
  have h := h.next 10000 _ _ rf_700000 (b := 700000) rfl
  have h := h.next 10000 _ _ rf_710000 (b := 710000) rfl
  have h := h.next 10000 _ _ rf_720000 (b := 720000) rfl
  have h := h.next 10000 _ _ rf_730000 (b := 730000) rfl
  have h := h.next 10000 _ _ rf_740000 (b := 740000) rfl
  have h := h.next 10000 _ _ rf_750000 (b := 750000) rfl
  have h := h.next 10000 _ _ rf_760000 (b := 760000) rfl
  have h := h.next 10000 _ _ rf_770000 (b := 770000) rfl
  have h := h.next 10000 _ _ rf_780000 (b := 780000) rfl
  have h := h.next 10000 _ _ rf_790000 (b := 790000) rfl
  have h := h.next 10000 _ _ rf_800000 (b := 800000) rfl
  have h := h.next 10000 _ _ rf_810000 (b := 810000) rfl
  have h := h.next 10000 _ _ rf_820000 (b := 820000) rfl
  have h := h.next 10000 _ _ rf_830000 (b := 830000) rfl
  have h := h.next 10000 _ _ rf_840000 (b := 840000) rfl
  have h := h.next 10000 _ _ rf_850000 (b := 850000) rfl
  have h := h.next 10000 _ _ rf_860000 (b := 860000) rfl
  have h := h.next 10000 _ _ rf_870000 (b := 870000) rfl
  have h := h.next 10000 _ _ rf_880000 (b := 880000) rfl
  have h := h.next 10000 _ _ rf_890000 (b := 890000) rfl
  have h := h.next 10000 _ _ rf_900000 (b := 900000) rfl
  have h := h.next 10000 _ _ rf_910000 (b := 910000) rfl
  have h := h.next 10000 _ _ rf_920000 (b := 920000) rfl
  have h := h.next 10000 _ _ rf_930000 (b := 930000) rfl
  have h := h.next 10000 _ _ rf_940000 (b := 940000) rfl
  have h := h.next 10000 _ _ rf_950000 (b := 950000) rfl
  have h := h.next 10000 _ _ rf_960000 (b := 960000) rfl
  have h := h.next 10000 _ _ rf_970000 (b := 970000) rfl
  have h := h.next 10000 _ _ rf_980000 (b := 980000) rfl
  have h := h.next 10000 _ _ rf_990000 (b := 990000) rfl
  have h := h.next 10000 _ _ rf_1000000 (b := 1000000) rfl
  have h := h.next 10000 _ _ rf_1010000 (b := 1010000) rfl
  have h := h.next 10000 _ _ rf_1020000 (b := 1020000) rfl
  have h := h.next 10000 _ _ rf_1030000 (b := 1030000) rfl
  have h := h.next 10000 _ _ rf_1040000 (b := 1040000) rfl
  have h := h.next 10000 _ _ rf_1050000 (b := 1050000) rfl
  have h := h.next 10000 _ _ rf_1060000 (b := 1060000) rfl
  have h := h.next 10000 _ _ rf_1070000 (b := 1070000) rfl
  have h := h.next 10000 _ _ rf_1080000 (b := 1080000) rfl
  have h := h.next 10000 _ _ rf_1090000 (b := 1090000) rfl
  have h := h.next 10000 _ _ rf_1100000 (b := 1100000) rfl
  have h := h.next 10000 _ _ rf_1110000 (b := 1110000) rfl
  have h := h.next 10000 _ _ rf_1120000 (b := 1120000) rfl
  have h := h.next 10000 _ _ rf_1130000 (b := 1130000) rfl
  have h := h.next 10000 _ _ rf_1140000 (b := 1140000) rfl
  have h := h.next 10000 _ _ rf_1150000 (b := 1150000) rfl
  have h := h.next 10000 _ _ rf_1160000 (b := 1160000) rfl
  have h := h.next 10000 _ _ rf_1170000 (b := 1170000) rfl
  have h := h.next 10000 _ _ rf_1180000 (b := 1180000) rfl
  have h := h.next 10000 _ _ rf_1190000 (b := 1190000) rfl
  have h := h.next 10000 _ _ rf_1200000 (b := 1200000) rfl
  have h := h.next 10000 _ _ rf_1210000 (b := 1210000) rfl
  have h := h.next 10000 _ _ rf_1220000 (b := 1220000) rfl
  have h := h.next 10000 _ _ rf_1230000 (b := 1230000) rfl
  have h := h.next 10000 _ _ rf_1240000 (b := 1240000) rfl
  have h := h.next 10000 _ _ rf_1250000 (b := 1250000) rfl
  have h := h.next 10000 _ _ rf_1260000 (b := 1260000) rfl
  have h := h.next 10000 _ _ rf_1270000 (b := 1270000) rfl
  have h := h.next 10000 _ _ rf_1280000 (b := 1280000) rfl
  have h := h.next 10000 _ _ rf_1290000 (b := 1290000) rfl
  have h := h.next 10000 _ _ rf_1300000 (b := 1300000) rfl
  have h := h.next 10000 _ _ rf_1310000 (b := 1310000) rfl
  have h := h.next 10000 _ _ rf_1320000 (b := 1320000) rfl
  have h := h.next 10000 _ _ rf_1330000 (b := 1330000) rfl
  have h := h.next 10000 _ _ rf_1340000 (b := 1340000) rfl
  have h := h.next 10000 _ _ rf_1350000 (b := 1350000) rfl
  have h := h.next 10000 _ _ rf_1360000 (b := 1360000) rfl
  have h := h.next 10000 _ _ rf_1370000 (b := 1370000) rfl
  have h := h.next 10000 _ _ rf_1380000 (b := 1380000) rfl
  have h := h.next 10000 _ _ rf_1390000 (b := 1390000) rfl
  have h := h.next 10000 _ _ rf_1400000 (b := 1400000) rfl
  have h := h.next 10000 _ _ rf_1410000 (b := 1410000) rfl
  have h := h.next 10000 _ _ rf_1420000 (b := 1420000) rfl
  have h := h.next 10000 _ _ rf_1430000 (b := 1430000) rfl
  have h := h.next 10000 _ _ rf_1440000 (b := 1440000) rfl
  have h := h.next 10000 _ _ rf_1450000 (b := 1450000) rfl
  have h := h.next 10000 _ _ rf_1460000 (b := 1460000) rfl
  have h := h.next 10000 _ _ rf_1470000 (b := 1470000) rfl
  have h := h.next 10000 _ _ rf_1480000 (b := 1480000) rfl
  have h := h.next 10000 _ _ rf_1490000 (b := 1490000) rfl
  have h := h.next 10000 _ _ rf_1500000 (b := 1500000) rfl
  have h := h.next 10000 _ _ rf_1510000 (b := 1510000) rfl
  have h := h.next 10000 _ _ rf_1520000 (b := 1520000) rfl
  have h := h.next 10000 _ _ rf_1530000 (b := 1530000) rfl
  have h := h.next 10000 _ _ rf_1540000 (b := 1540000) rfl
  have h := h.next 10000 _ _ rf_1550000 (b := 1550000) rfl
  have h := h.next 10000 _ _ rf_1560000 (b := 1560000) rfl
  have h := h.next 10000 _ _ rf_1570000 (b := 1570000) rfl
  have h := h.next 10000 _ _ rf_1580000 (b := 1580000) rfl
  have h := h.next 10000 _ _ rf_1590000 (b := 1590000) rfl
  have h := h.next 10000 _ _ rf_1600000 (b := 1600000) rfl
  have h := h.next 10000 _ _ rf_1610000 (b := 1610000) rfl
  have h := h.next 10000 _ _ rf_1620000 (b := 1620000) rfl
  have h := h.next 10000 _ _ rf_1630000 (b := 1630000) rfl
  have h := h.next 10000 _ _ rf_1640000 (b := 1640000) rfl
  have h := h.next 10000 _ _ rf_1650000 (b := 1650000) rfl
  have h := h.next 10000 _ _ rf_1660000 (b := 1660000) rfl
  have h := h.next 10000 _ _ rf_1670000 (b := 1670000) rfl
  have h := h.next 10000 _ _ rf_1680000 (b := 1680000) rfl
  have h := h.next 10000 _ _ rf_1690000 (b := 1690000) rfl
  have h := h.next 10000 _ _ rf_1700000 (b := 1700000) rfl
  have h := h.next 10000 _ _ rf_1710000 (b := 1710000) rfl
  have h := h.next 10000 _ _ rf_1720000 (b := 1720000) rfl
  have h := h.next 10000 _ _ rf_1730000 (b := 1730000) rfl
  have h := h.next 10000 _ _ rf_1740000 (b := 1740000) rfl
  have h := h.next 10000 _ _ rf_1750000 (b := 1750000) rfl
  have h := h.next 10000 _ _ rf_1760000 (b := 1760000) rfl
  have h := h.next 10000 _ _ rf_1770000 (b := 1770000) rfl
  have h := h.next 10000 _ _ rf_1780000 (b := 1780000) rfl
  have h := h.next 10000 _ _ rf_1790000 (b := 1790000) rfl
  have h := h.next 10000 _ _ rf_1800000 (b := 1800000) rfl
  have h := h.next 10000 _ _ rf_1810000 (b := 1810000) rfl
  have h := h.next 10000 _ _ rf_1820000 (b := 1820000) rfl
  have h := h.next 10000 _ _ rf_1830000 (b := 1830000) rfl
  have h := h.next 10000 _ _ rf_1840000 (b := 1840000) rfl
  have h := h.next 10000 _ _ rf_1850000 (b := 1850000) rfl
  have h := h.next 10000 _ _ rf_1860000 (b := 1860000) rfl
  have h := h.next 10000 _ _ rf_1870000 (b := 1870000) rfl
  have h := h.next 10000 _ _ rf_1880000 (b := 1880000) rfl
  have h := h.next 10000 _ _ rf_1890000 (b := 1890000) rfl
  have h := h.next 10000 _ _ rf_1900000 (b := 1900000) rfl
  have h := h.next 10000 _ _ rf_1910000 (b := 1910000) rfl
  have h := h.next 10000 _ _ rf_1920000 (b := 1920000) rfl
  have h := h.next 10000 _ _ rf_1930000 (b := 1930000) rfl
  have h := h.next 10000 _ _ rf_1940000 (b := 1940000) rfl
  have h := h.next 10000 _ _ rf_1950000 (b := 1950000) rfl
  have h := h.next 10000 _ _ rf_1960000 (b := 1960000) rfl
  have h := h.next 10000 _ _ rf_1970000 (b := 1970000) rfl
  have h := h.next 10000 _ _ rf_1980000 (b := 1980000) rfl
  have h := h.next 10000 _ _ rf_1990000 (b := 1990000) rfl
  have h := h.next 10000 _ _ rf_2000000 (b := 2000000) rfl
  have h := h.next 10000 _ _ rf_2010000 (b := 2010000) rfl
  have h := h.next 10000 _ _ rf_2020000 (b := 2020000) rfl
  have h := h.next 10000 _ _ rf_2030000 (b := 2030000) rfl
  have h := h.next 10000 _ _ rf_2040000 (b := 2040000) rfl
  have h := h.next 10000 _ _ rf_2050000 (b := 2050000) rfl
  have h := h.next 10000 _ _ rf_2060000 (b := 2060000) rfl
  have h := h.next 10000 _ _ rf_2070000 (b := 2070000) rfl
  have h := h.next 10000 _ _ rf_2080000 (b := 2080000) rfl
  have h := h.next 10000 _ _ rf_2090000 (b := 2090000) rfl
  have h := h.next 10000 _ _ rf_2100000 (b := 2100000) rfl
  have h := h.next 10000 _ _ rf_2110000 (b := 2110000) rfl
  have h := h.next 10000 _ _ rf_2120000 (b := 2120000) rfl
  have h := h.next 10000 _ _ rf_2130000 (b := 2130000) rfl
  have h := h.next 10000 _ _ rf_2140000 (b := 2140000) rfl
  have h := h.next 10000 _ _ rf_2150000 (b := 2150000) rfl
  have h := h.next 10000 _ _ rf_2160000 (b := 2160000) rfl
  have h := h.next 10000 _ _ rf_2170000 (b := 2170000) rfl
  have h := h.next 10000 _ _ rf_2180000 (b := 2180000) rfl
  have h := h.next 10000 _ _ rf_2190000 (b := 2190000) rfl
  have h := h.next 10000 _ _ rf_2200000 (b := 2200000) rfl
  have h := h.next 10000 _ _ rf_2210000 (b := 2210000) rfl
  have h := h.next 10000 _ _ rf_2220000 (b := 2220000) rfl
  have h := h.next 10000 _ _ rf_2230000 (b := 2230000) rfl
  have h := h.next 10000 _ _ rf_2240000 (b := 2240000) rfl
  have h := h.next 10000 _ _ rf_2250000 (b := 2250000) rfl
  have h := h.next 10000 _ _ rf_2260000 (b := 2260000) rfl
  have h := h.next 10000 _ _ rf_2270000 (b := 2270000) rfl
  have h := h.next 10000 _ _ rf_2280000 (b := 2280000) rfl
  have h := h.next 10000 _ _ rf_2290000 (b := 2290000) rfl
  have h := h.next 10000 _ _ rf_2300000 (b := 2300000) rfl
  have h := h.next 10000 _ _ rf_2310000 (b := 2310000) rfl
  have h := h.next 10000 _ _ rf_2320000 (b := 2320000) rfl
  have h := h.next 10000 _ _ rf_2330000 (b := 2330000) rfl
  have h := h.next 10000 _ _ rf_2340000 (b := 2340000) rfl
  have h := h.next 10000 _ _ rf_2350000 (b := 2350000) rfl
  have h := h.next 10000 _ _ rf_2360000 (b := 2360000) rfl
  have h := h.next 10000 _ _ rf_2370000 (b := 2370000) rfl
  have h := h.next 10000 _ _ rf_2380000 (b := 2380000) rfl
  have h := h.next 10000 _ _ rf_2390000 (b := 2390000) rfl
  have h := h.next 10000 _ _ rf_2400000 (b := 2400000) rfl
  have h := h.next 10000 _ _ rf_2410000 (b := 2410000) rfl
  have h := h.next 10000 _ _ rf_2420000 (b := 2420000) rfl
  have h := h.next 10000 _ _ rf_2430000 (b := 2430000) rfl
  have h := h.next 10000 _ _ rf_2440000 (b := 2440000) rfl
  have h := h.next 10000 _ _ rf_2450000 (b := 2450000) rfl
  have h := h.next 10000 _ _ rf_2460000 (b := 2460000) rfl
  have h := h.next 10000 _ _ rf_2470000 (b := 2470000) rfl
  have h := h.next 10000 _ _ rf_2480000 (b := 2480000) rfl
  have h := h.next 10000 _ _ rf_2490000 (b := 2490000) rfl
  have h := h.next 10000 _ _ rf_2500000 (b := 2500000) rfl
  have h := h.next 10000 _ _ rf_2510000 (b := 2510000) rfl
  have h := h.next 10000 _ _ rf_2520000 (b := 2520000) rfl
  have h := h.next 10000 _ _ rf_2530000 (b := 2530000) rfl
  have h := h.next 10000 _ _ rf_2540000 (b := 2540000) rfl
  have h := h.next 10000 _ _ rf_2550000 (b := 2550000) rfl
  have h := h.next 10000 _ _ rf_2560000 (b := 2560000) rfl
  have h := h.next 10000 _ _ rf_2570000 (b := 2570000) rfl
  have h := h.next 10000 _ _ rf_2580000 (b := 2580000) rfl
  have h := h.next 10000 _ _ rf_2590000 (b := 2590000) rfl
  have h := h.next 10000 _ _ rf_2600000 (b := 2600000) rfl
  have h := h.next 10000 _ _ rf_2610000 (b := 2610000) rfl
  have h := h.next 10000 _ _ rf_2620000 (b := 2620000) rfl
  have h := h.next 10000 _ _ rf_2630000 (b := 2630000) rfl
  have h := h.next 10000 _ _ rf_2640000 (b := 2640000) rfl
  have h := h.next 10000 _ _ rf_2650000 (b := 2650000) rfl
  have h := h.next 10000 _ _ rf_2660000 (b := 2660000) rfl
  have h := h.next 10000 _ _ rf_2670000 (b := 2670000) rfl
  have h := h.next 10000 _ _ rf_2680000 (b := 2680000) rfl
  have h := h.next 10000 _ _ rf_2690000 (b := 2690000) rfl
  have h := h.next 10000 _ _ rf_2700000 (b := 2700000) rfl
  exact h
theorem far_all : FarU 2699999 := far_of_rot (by decide) far_2700000
end Go.Proofs.YtnnmfdeeicpdlaaGreat
/- The reference's angle of a point of the first quadrant: direction, floor. -/
namespace Go.Proofs.YtnnmfdeeicpdlaaGreat
set_option maxHeartbeats 2000000
set_option maxRecDepth 100000
open Go.RowKit

theorem r7_direction (x y : Int) (w : World) (x0 : 0 < x) (x1 : x ≤ 2147483648) (y0 : 0 ≤ y) (y1 : y ≤ 2147483648) :
    Calls Tryz.prog 249 #[(.agg #[.int .i64 (x), .int .i64 (y)])] w fun e w' => ∃ (m : Nat) (d : Ext), m ≤ 5399999 ∧ e = .returned (.int .i64 (m : Int)) ∧ w' = bw w d := by
  have HRg := Lib.hid (fun (n : Nat) W (h : n ≤ 5400000) => r7_RoughN n W h)
  have HX := Lib.hid (And.intro x0 (And.intro x1 (And.intro y0 y1)))
  clear x0 x1 y0 y1
  refine lay_start ?_
  go_enter Tryz.func249, Tryz.ntmps249
  go_wp2_with fail
  go_loopw [3, 4] (fun v3 v4 wr => ∃ (a b : Nat) (dd : Ext), a ≤ b ∧ b ≤ 5399999 ∧ v3 = .int .i64 (a : Int) ∧ v4 = .int .i64 (b : Int) ∧ wr = lay w [.inr dd, .inl (.cells #[.int .i64 x, .int .i64 y] 172 (0, 0))]) (fun v3 v4 _ => (intOf v4 - intOf v3).toNat)
  case atStart => exact ⟨0, 5399999, noExt _, by decide, by decide, rfl, rfl, (bw_noExt _).symm⟩
  case round =>
    obtain ⟨a, b, dd, hab, hb, rfl, rfl, rfl⟩ := hrel
    by_cases c : a < b
    · have c1 : (a : Int) < (b : Int) := by omega
      obtain ⟨m, hm⟩ : ∃ m : Nat, a + (b - a + 1) / 2 = m := ⟨_, rfl⟩
      have hm2 : a < m ∧ m ≤ b := by omega
      obtain ⟨D, hD⟩ : ∃ D : Int, (b : Int) - (a : Int) = D := ⟨_, rfl⟩
      obtain ⟨D1, hD1⟩ : ∃ D1 : Int, D + 1 = D1 := ⟨_, rfl⟩
      obtain ⟨H, hH⟩ : ∃ H : Int, D1 / 2 = H := ⟨_, rfl⟩
      have tH : D1.tdiv 2 = H := by rw [Int.tdiv_eq_ediv_of_nonneg (by omega)]; exact hH
      have hmI : (a : Int) + H = (m : Int) := by omega
      have kD : IntKind.i64.wrap D = D := IntWalk.i64_in _ (by omega)
      have kD1 : IntKind.i64.wrap D1 = D1 := IntWalk.i64_in _ (by omega)
      have kH : IntKind.i64.wrap H = H := IntWalk.i64_in _ (by omega)
      have km : IntKind.i64.wrap (m : Int) = (m : Int) := IntWalk.i64_in _ (by omega)
      have km1 : IntKind.i64.wrap ((m : Int) - 1) = (m : Int) - 1 := IntWalk.i64_in _ (by omega)
      obtain ⟨m2, hm3⟩ : ∃ m2 : Nat, 5400000 - m = m2 := ⟨_, rfl⟩
      have hmJ : (5400000 : Int) - (m : Int) = (m2 : Int) := by omega
      have km2 : IntKind.i64.wrap (m2 : Int) = (m2 : Int) := IntWalk.i64_in _ (by omega)
      have HR1 := Lib.hid (fun W => HRg.out m W (by omega))
      have HR2 := Lib.hid (fun W => HRg.out m2 W (by omega))
      have r1 := (rghV_in (n := m) (by omega)).2.2
      have r2 := (rghV_in (n := m2) (by omega)).2.2
      generalize rghV m = V1 at *
      generalize rghV m2 = V2 at *
      obtain ⟨P, hP⟩ : ∃ P : Int, x * V1 = P := ⟨_, rfl⟩
      obtain ⟨Q, hQ⟩ : ∃ Q : Int, y * V2 = Q := ⟨_, rfl⟩
      obtain ⟨x0, x1, y0, y1⟩ := HX.out
      have bP : 0 ≤ P ∧ P ≤ 4000000000000000000 := by
        have p0 := Int.mul_nonneg (show 0 ≤ x by omega) r1.1
        have p1 := Int.mul_le_mul x1 r1.2 r1.1 (show (0 : Int) ≤ 2147483648 by decide)
        omega
      have bQ : 0 ≤ Q ∧ Q ≤ 4000000000000000000 := by
        have p0 := Int.mul_nonneg y0 r2.1
        have p1 := Int.mul_le_mul y1 r2.2 r2.1 (show (0 : Int) ≤ 2147483648 by decide)
        omega
      have kP : IntKind.i64.wrap P = P := IntWalk.i64_in _ (by omega)
      have kQ : IntKind.i64.wrap Q = Q := IntWalk.i64_in _ (by omega)
      have HM := Lib.hid (And.intro hm2 (And.intro hab hb))
      clear hm hm2 hm3 r1 r2 x0 x1 y0 y1 bP bQ hab hb c hH
      go_wp2_with fail
      refine region_bw (by kernel_rfl) (by kernel_rfl) ?_
      repeat (go_big_quiet_step ((first | (go_at_call 251; first | (with_reducible refine bq (HR1.out _) ?_; exact (fun d => lay_join _ _ _ d)) | (with_reducible refine bq (HR2.out _) ?_; exact (fun d => lay_join _ _ _ d)) | (with_reducible refine bq (HR1.out _) ?_; exact (fun d => ⟨d, rfl⟩)) | (with_reducible refine bq (HR2.out _) ?_; exact (fun d => ⟨d, rfl⟩))))))
      refine wpQuiet_nil ?_
      rintro w' ⟨d, rfl⟩
      rw [lay_bw]
      obtain ⟨z, hz⟩ : ∃ z, lay w [.inr d, .inr dd, .inl (.cells #[.int .i64 x, .int .i64 y] 172 (0, 0))] = lay w [.inr z, .inl (.cells #[.int .i64 x, .int .i64 y] 172 (0, 0))] := ⟨_, bw_bw _ _ _⟩
      rw [hz]
      clear hz
      by_cases cp : P ≤ Q
      · go_wp2_with fail
        go_roundw
        case rel => exact ⟨m, b, z, HM.out.1.2, HM.out.2.2, rfl, rfl, rfl⟩
        case measure => have := HM.out; simp [intOf]; omega
      · go_wp2_with fail
        go_roundw
        case rel => exact ⟨a, m - 1, z, by have := HM.out; omega, by have := HM.out; omega, rfl, by congr 1; have := HM.out; omega, rfl⟩
        case measure => have := HM.out; simp [intOf]; omega
    · have c1 : ¬ (a : Int) < (b : Int) := by omega
      have HM := Lib.hid (And.intro hab hb)
      clear c hab hb
      go_wp2_with fail
      go_ret
      obtain ⟨y', hy'⟩ := lay_ex w [.inr dd, .inl (.cells #[.int .i64 x, .int .i64 y] 172 (0, 0))]
      exact ⟨a, by have := HM.out; omega, rfl, y', hy'⟩
theorem sideV_0 {x y : Int} (y0 : 0 ≤ y) : sideV 0 x y ≤ 0 := by
  unfold sideV sgI
  rw [if_pos rfl]
  split
  · decide
  · rw [if_neg (by omega)]; decide
theorem sideV_q {x y : Int} (x0 : 0 < x) : sideV 5400000 x y = 1 := by
  unfold sideV sgI
  rw [if_neg (by decide), if_neg (by decide), if_pos rfl, if_neg (by omega), if_pos x0]
theorem r6_Side (n : Nat) (x y : Int) (w : World) (hn : n ≤ 5400000) (x0 : 0 < x) (x1 : x ≤ 2147483648) (y0 : 0 ≤ y) (y1 : y ≤ 2147483648) :
    Calls Tryz.prog 250 #[.int .i64 (n : Int), .int .i64 x, .int .i64 y] w fun e w' => e = .returned (.int .i64 (sideV n x y)) ∧ ∃ d, w' = bw w d := by
  by_cases h0 : n = 0
  · subst h0
    have := r6_SideE0 x y w (by omega) x1 y0 y1
    unfold sideV
    rw [if_pos rfl]
    exact this
  · by_cases h1 : n = 2700000
    · subst h1
      have := r6_SideE1 x y w (by omega) x1 y0 y1
      unfold sideV
      rw [if_neg h0, if_pos rfl]
      exact this
    · by_cases h2 : n = 5400000
      · subst h2
        have := r6_SideE2 x y w (by omega) x1 y0 y1
        unfold sideV
        rw [if_neg h0, if_neg h1, if_pos rfl]
        exact this
      · exact r6_SideGx far_all n x y w (by omega) h1 (by omega) x0 x1 y0 y1
structure FloI (x y : Int) (k : Nat) : Prop where
  lt : k < 5400000
  lo : sideV k x y ≤ 0
  hi : 0 < sideV (k + 1) x y
theorem r7_floor (x y : Int) (w : World) (x0 : 0 < x) (x1 : x ≤ 2147483648) (y0 : 0 ≤ y) (y1 : y ≤ 2147483648) :
    Calls Tryz.prog 199 #[(.agg #[.int .i64 (x), .int .i64 (y)])] w fun e w' => ∃ (k : Nat) (d : Ext), FloI x y k ∧ e = .returned (.tuple #[.int .i64 (k : Int), .bool (sideV k x y == 0)]) ∧ w' = bw w d := by
  have HD := Lib.hid (fun W => r7_direction x y W x0 x1 y0 y1)
  have HS := Lib.hid (fun n W (h : n ≤ 5400000) => r6_Side n x y W h x0 x1 y0 y1)
  have H0 := Lib.hid (sideV_0 (x := x) y0)
  have HQ := Lib.hid (sideV_q (y := y) x0)
  clear x0 x1 y0 y1
  refine lay_start ?_
  go_enter Tryz.func199, Tryz.ntmps199
  go_wp2_with fail
  refine (HD.out _).mono ?_
  rintro e w' ⟨m, d0, hm, rfl, rfl⟩
  rw [lay_bw]
  have HM := Lib.hid hm
  clear hm HD
  go_wp2_with fail
  go_loopw [4] (fun v4 wr => ∃ (k : Nat) (dd : Ext), k ≤ 5399999 ∧ v4 = .int .i64 (k : Int) ∧ wr = lay w [.inr dd, .inl (.cells #[.int .i64 x, .int .i64 y] 172 (0, 0))]) (fun v4 _ => (intOf v4).toNat)
  case atStart => exact ⟨m, d0, HM.out, rfl, rfl⟩
  case round =>
    obtain ⟨k, dd, hk, rfl, rfl⟩ := hrel
    have HK := Lib.hid hk
    have HS1 := Lib.hid (fun W => HS.out k W (by omega))
    obtain ⟨v, hv⟩ : ∃ v, sideV k x y = v := ⟨_, rfl⟩
    rw [hv] at HS1
    by_cases c : 0 < v
    · have hk0 : k ≠ 0 := fun h => by
        have := H0.out
        rw [← h, hv] at this
        omega
      have km1 : IntKind.i64.wrap ((k : Int) - 1) = (k : Int) - 1 := IntWalk.i64_in _ (by omega)
      have HK0 := Lib.hid hk0
      clear hk hv hk0
      go_wp2_with (go_at_call 250; refine (HS1.out _).mono ?_; rintro e w' ⟨rfl, d1, rfl⟩; rw [lay_bw])
      obtain ⟨z, hz⟩ : ∃ z, lay w [.inr d1, .inr dd, .inl (.cells #[.int .i64 x, .int .i64 y] 172 (0, 0))] = lay w [.inr z, .inl (.cells #[.int .i64 x, .int .i64 y] 172 (0, 0))] := ⟨_, bw_bw _ _ _⟩
      rw [hz]
      clear hz
      go_wp2_with fail
      go_roundw
      case rel => exact ⟨k - 1, z, by have := HK.out; omega, by congr 1; have := HK0.out; omega, rfl⟩
      case measure => have := HK0.out; simp [intOf]; omega
    · have HV := Lib.hid hv
      have HC := Lib.hid c
      clear hk hv
      go_wp2_with (go_at_call 250; refine (HS1.out _).mono ?_; rintro e w' ⟨rfl, d1, rfl⟩; rw [lay_bw])
      obtain ⟨z, hz⟩ : ∃ z, lay w [.inr d1, .inr dd, .inl (.cells #[.int .i64 x, .int .i64 y] 172 (0, 0))] = lay w [.inr z, .inl (.cells #[.int .i64 x, .int .i64 y] 172 (0, 0))] := ⟨_, bw_bw _ _ _⟩
      rw [hz]
      clear hz
      go_loopw [4] (fun v4 wr => ∃ (k : Nat) (dd : Ext), k ≤ 5399999 ∧ sideV k x y ≤ 0 ∧ v4 = .int .i64 (k : Int) ∧ wr = lay w [.inr dd, .inl (.cells #[.int .i64 x, .int .i64 y] 172 (0, 0))]) (fun v4 _ => (5400000 - intOf v4).toNat)
      case atStart => exact ⟨k, z, HK.out, by have := HV.out; have := HC.out; omega, rfl, rfl⟩
      case round =>
        clear HK HS1 HV HC c
        obtain ⟨k, dd, hk, hle, rfl, rfl⟩ := hrel
        have HK := Lib.hid (And.intro hk hle)
        have HS1 := Lib.hid (fun W => HS.out (k + 1) W (by omega))
        have HS2 := Lib.hid (fun W => HS.out k W (by omega))
        obtain ⟨K1, hK1⟩ : ∃ K1 : Int, (k : Int) + 1 = K1 := ⟨_, rfl⟩
        have kK1 : IntKind.i64.wrap K1 = K1 := IntWalk.i64_in _ (by omega)
        rw [show ((k + 1 : Nat) : Int) = K1 by omega] at HS1
        obtain ⟨v, hv⟩ : ∃ v, sideV (k + 1) x y = v := ⟨_, rfl⟩
        rw [hv] at HS1
        by_cases c : v ≤ 0
        · have hk0 : k + 1 ≤ 5399999 := by
            have h1 := HQ.out
            rcases Nat.lt_or_ge (k + 1) 5400000 with h | h
            · omega
            · rw [show k + 1 = 5400000 by omega, h1] at hv
              omega
          have HV := Lib.hid (And.intro hk0 (show sideV (k + 1) x y ≤ 0 by rw [hv]; exact c))
          have HKI := Lib.hid (show K1 = ((k + 1 : Nat) : Int) by omega)
          clear hk hle hv hk0
          go_wp2_with (go_at_call 250; refine (HS1.out _).mono ?_; rintro e w' ⟨rfl, d1, rfl⟩; rw [lay_bw])
          obtain ⟨z, hz⟩ : ∃ z, lay w [.inr d1, .inr dd, .inl (.cells #[.int .i64 x, .int .i64 y] 172 (0, 0))] = lay w [.inr z, .inl (.cells #[.int .i64 x, .int .i64 y] 172 (0, 0))] := ⟨_, bw_bw _ _ _⟩
          rw [hz]
          clear hz
          go_wp2_with fail
          go_roundw
          case rel => exact ⟨k + 1, z, HV.out.1, HV.out.2, by rw [HKI.out], rfl⟩
          case measure => have := HKI.out; have := HV.out; simp [intOf]; omega
        · have HF : Hid (FloI x y k) := Lib.hid ⟨by omega, hle, by rw [hv]; omega⟩
          obtain ⟨t, ht⟩ : ∃ t, sideV k x y = t := ⟨_, rfl⟩
          have HT := Lib.hid ht
          rw [ht] at HS2
          clear hk hle hv ht
          go_wp2_with (go_at_call 250; first | ((with_reducible refine (HS1.out _).mono ?_); rintro e w' ⟨rfl, d1, rfl⟩; rw [lay_bw]) | ((with_reducible refine (HS2.out _).mono ?_); rintro e w' ⟨rfl, d2, rfl⟩; rw [lay_bw]))
          refine bodyPost_ret (v := .tuple #[.int .i64 (k : Int), .bool (t == 0)]) (by simp [results, Tryz.results199, go_sem]) rfl ?_
          obtain ⟨y', hy'⟩ := lay_ex w [.inr d2, .inr d1, .inr dd, .inl (.cells #[.int .i64 x, .int .i64 y] 172 (0, 0))]
          exact ⟨k, y', HF.out, by rw [HT.out], hy'⟩
end Go.Proofs.YtnnmfdeeicpdlaaGreat
/- The sides of a point grow with the direction: the reference's floor is the program's angle. No walk. -/
namespace Go.Proofs.YtnnmfdeeicpdlaaGreat
open Go.RowKit

theorem one_num : 29 / 100000000 + 1 / (k160 : Rat) ≤ (s1U : Rat) / (k160 : Rat) ∧ 1 - 1 / 10000000000000 + 1 / (k160 : Rat) ≤ (c1U : Rat) / (k160 : Rat) ∧ (c1U : Rat) / (k160 : Rat) + 1 / (k160 : Rat) ≤ 1 - 1 / 100000000000000 ∧ 1 / (k160 : Rat) ≤ 1 / 10000000000000000000000000000000000000000 := by decide +kernel
theorem one_in : 29 / 100000000 ≤ sinU 1 ∧ 1 - 1 / 10000000000000 ≤ cosU 1 ∧ cosU 1 ≤ 1 - 1 / 100000000000000 := by
  obtain ⟨⟨a1, a2⟩, b1, b2⟩ := oneU_near
  obtain ⟨n1, n2, n3, n4⟩ := one_num
  generalize sinU 1 = s at *
  generalize cosU 1 = c at *
  generalize (s1U : Rat) / (k160 : Rat) = p at *
  generalize (c1U : Rat) / (k160 : Rat) = q at *
  generalize 1 / (k160 : Rat) = e at *
  refine ⟨?_, ?_, ?_⟩ <;> grind
theorem sinU_up {n : Nat} (h : n < 2700000) : sinU n + 1 / 10000000 ≤ sinU (n + 1) := by
  obtain ⟨h1, h2⟩ := sinU_step (n := n) (by omega)
  obtain ⟨i1, i2, i3⟩ := one_in
  have n4 := one_num.2.2.2
  obtain ⟨s0, s1⟩ := sinU_in (n := n) (by omega)
  obtain ⟨c0, c1⟩ := cosU_in (n := n) (by omega)
  have hx := (xi_in (n := n) (by omega)).2
  have m1 := rmul (show (0 : Rat) ≤ 17 / 25 by grind) c0 (show (0 : Rat) ≤ 29 / 100000000 by grind) i1
  have m2 := rmul s0 (show sinU n ≤ 4 / 5 by exact Rat.le_trans s1 hx) (show (0 : Rat) ≤ 1 - cosU 1 by generalize cosU 1 = c at *; grind) (show 1 - cosU 1 ≤ 1 / 10000000000000 by generalize cosU 1 = c at *; grind)
  generalize sinU (n + 1) = z at *
  generalize sinU n = s at *
  generalize cosU n = c at *
  generalize sinU 1 = p at *
  generalize cosU 1 = q at *
  generalize 1 / (k160 : Rat) = e at *
  clear i1 i2 i3 s1 hx
  grind
theorem cosU_dn {n : Nat} (h : n < 2700000) : cosU (n + 1) ≤ cosU n := by
  obtain ⟨h1, h2⟩ := cosU_step (n := n) (by omega)
  obtain ⟨i1, i2, i3⟩ := one_in
  have n4 := one_num.2.2.2
  obtain ⟨s0, s1⟩ := sinU_in (n := n) (by omega)
  obtain ⟨c0, c1⟩ := cosU_in (n := n) (by omega)
  have m1 := rmul (show (0 : Rat) ≤ 17 / 25 by grind) c0 (show (0 : Rat) ≤ 1 / 100000000000000 by grind) (show 1 / 100000000000000 ≤ 1 - cosU 1 by generalize cosU 1 = c at *; grind)
  have m2 := rmul0 s0 (show 0 ≤ sinU 1 by generalize sinU 1 = c at *; grind)
  generalize cosU (n + 1) = z at *
  generalize sinU n = s at *
  generalize cosU n = c at *
  generalize sinU 1 = p at *
  generalize cosU 1 = q at *
  generalize 1 / (k160 : Rat) = e at *
  clear i1 i2 i3 s1
  grind
theorem sinU_mono {a : Nat} : ∀ d : Nat, a + d ≤ 2700000 → sinU a ≤ sinU (a + d)
  | 0, _ => Rat.le_refl
  | d + 1, h => by
    have h1 := sinU_mono (a := a) d (by omega)
    have h2 := sinU_up (n := a + d) (by omega)
    rw [show a + (d + 1) = a + d + 1 by omega]
    generalize sinU (a + d + 1) = z at *
    generalize sinU (a + d) = y at *
    grind
theorem cosU_mono {a : Nat} : ∀ d : Nat, a + d ≤ 2700000 → cosU (a + d) ≤ cosU a
  | 0, _ => Rat.le_refl
  | d + 1, h => Rat.le_trans (by rw [show a + (d + 1) = a + d + 1 by omega]; exact cosU_dn (by omega)) (cosU_mono (a := a) d (by omega))
theorem sinU_le {a b : Nat} (h : a ≤ b) (hb : b ≤ 2700000) : sinU a ≤ sinU b := by
  have := sinU_mono (a := a) (b - a) (by omega)
  rwa [show a + (b - a) = b by omega] at this
theorem cosU_le {a b : Nat} (h : a ≤ b) (hb : b ≤ 2700000) : cosU b ≤ cosU a := by
  have := cosU_mono (a := a) (b - a) (by omega)
  rwa [show a + (b - a) = b by omega] at this
theorem mid_U : sinU 2700000 ≤ cosU 2700000 + 1 / 1000000000 := by
  obtain ⟨h1, h2⟩ := rotU_near (r := 2700000) (by decide)
  rw [show rotU 2700000 = _ from far_2700000.1] at h1 h2
  obtain ⟨a, b⟩ := h1
  obtain ⟨c, d⟩ := h2
  have hk : 64 * ((2700000 : Nat) : Rat) / (k160 : Rat) ≤ 1 / 10000000000 := by decide +kernel
  dsimp only at a b c d
  generalize sinU 2700000 = s at *
  generalize cosU 2700000 = t at *
  generalize 64 * ((2700000 : Nat) : Rat) / (k160 : Rat) = e at *
  generalize hp : ((_ : Nat) : Rat) / (k160 : Rat) = p at b
  generalize hq : ((_ : Nat) : Rat) / (k160 : Rat) = q at c
  have hpq : p ≤ q + 1 / 10000000000 := by rw [← hp, ← hq]; decide +kernel
  clear hp hq a d
  grind
theorem sin_cos_U {a b : Nat} (ha : a < 2700000) (hb : b ≤ 2700000) : sinU a + 9 / 100000000 ≤ cosU b := by
  have h1 := sinU_up ha
  have h2 := sinU_le (a := a + 1) (b := 2700000) (by omega) (Nat.le_refl _)
  have h3 := mid_U
  have h4 := cosU_le (a := b) (b := 2700000) hb (Nat.le_refl _)
  generalize sinU (a + 1) = z at *
  generalize sinU a = s at *
  generalize sinU 2700000 = m at *
  generalize cosU 2700000 = n at *
  generalize cosU b = t at *
  grind
theorem sU_mono {k1 k2 : Nat} (h : k1 < k2) (h2 : k2 < 5400000) (h3 : k1 ≠ 2700000) : sU k1 ≤ sU k2 ∧ cU k2 ≤ cU k1 := by
  unfold sU cU
  by_cases c2 : 2700000 < k2
  · rw [if_pos c2, if_pos c2]
    by_cases c1 : 2700000 < k1
    · rw [if_pos c1, if_pos c1]
      exact ⟨cosU_le (by omega) (by omega), sinU_le (by omega) (by omega)⟩
    · rw [if_neg c1, if_neg c1]
      constructor
      · have := sin_cos_U (a := k1) (b := 5400000 - k2) (by omega) (by omega)
        generalize sinU k1 = s at *
        generalize cosU (5400000 - k2) = t at *
        grind
      · have := sin_cos_U (a := 5400000 - k2) (b := k1) (by omega) (by omega)
        generalize sinU (5400000 - k2) = s at *
        generalize cosU k1 = t at *
        grind
  · rw [if_neg c2, if_neg c2, if_neg (by omega), if_neg (by omega)]
    exact ⟨sinU_le (by omega) (by omega), cosU_le (by omega) (by omega)⟩
theorem rpos {z : Int} (h : 0 ≤ z) : (0 : Rat) ≤ (z : Rat) := by exact_mod_cast h
theorem crU_mono {k1 k2 : Nat} (h : k1 < k2) (h2 : k2 < 5400000) (h3 : k1 ≠ 2700000) {u v : Int} (u0 : 0 ≤ u) (v0 : 0 ≤ v) : crU k1 u v ≤ crU k2 u v := by
  obtain ⟨a, b⟩ := sU_mono h h2 h3
  have m1 := Rat.mul_le_mul_of_nonneg_left a (rpos u0)
  have m2 := Rat.mul_le_mul_of_nonneg_left b (rpos v0)
  unfold crU
  generalize (u : Rat) = x at *
  generalize (v : Rat) = y at *
  grind
theorem side_gen {n : Nat} (h0 : n ≠ 0) (h1 : n ≠ 2700000) (h2 : n ≠ 5400000) (x y : Int) : sideV n x y = if 0 < crU n x y then 1 else -1 := by
  unfold sideV
  rw [if_neg h0, if_neg h1, if_neg h2]
theorem side_gen_le {n : Nat} (h0 : n ≠ 0) (h1 : n ≠ 2700000) (h2 : n ≠ 5400000) (x y : Int) : sideV n x y ≤ 0 ↔ ¬ 0 < crU n x y := by
  rw [side_gen h0 h1 h2]
  split
  · rename_i c
    exact ⟨fun h => by omega, fun h => absurd c h⟩
  · rename_i c
    exact ⟨fun _ => c, fun _ => by decide⟩
theorem side_half (x y : Int) : sideV 2700000 x y ≤ 0 ↔ x ≤ y := by
  unfold sideV sgI
  rw [if_neg (by decide), if_pos rfl]
  constructor
  · intro h
    rcases Int.lt_or_le y x with c | c
    · rw [if_neg (by omega), if_pos (by omega)] at h
      omega
    · exact c
  · intro h
    split
    · decide
    · rw [if_neg (by omega)]; decide
theorem sideV_mono {k1 k2 : Nat} (h : k1 < k2) (h2 : k2 ≤ 5400000) {u v : Int} (u0 : 0 < u) (v0 : 0 ≤ v) (hs : sideV k2 u v ≤ 0) : sideV k1 u v ≤ 0 := by
  by_cases z1 : k1 = 0
  · subst z1; exact sideV_0 v0
  · by_cases z2 : k2 = 5400000
    · subst z2
      rw [sideV_q u0] at hs
      omega
    · by_cases y2 : k2 = 2700000
      · subst y2
        have hu := (side_half u v).1 hs
        rw [side_gen_le z1 (by omega) (by omega)]
        have hc := sin_cos_U (a := k1) (b := k1) h (by omega)
        have s0 := (sinU_in (n := k1) (by omega)).1
        have hur := icast hu
        have m1 := Rat.mul_le_mul_of_nonneg_right hur s0
        have m2 := Rat.mul_le_mul_of_nonneg_left (show sinU k1 ≤ cosU k1 by generalize sinU k1 = s at *; generalize cosU k1 = c at *; grind) (rpos v0)
        unfold crU sU cU
        rw [if_neg (by omega), if_neg (by omega)]
        generalize sinU k1 = s at *
        generalize cosU k1 = c at *
        generalize (u : Rat) = x at *
        generalize (v : Rat) = y at *
        intro h
        clear hc hur
        grind
      · have g2 := (side_gen_le (by omega) y2 z2 u v).1 hs
        by_cases y1 : k1 = 2700000
        · subst y1
          rw [side_half]
          rcases Int.lt_or_le v u with c | c
          · exfalso
            apply g2
            have hc := sin_cos_U (a := 5400000 - k2) (b := 5400000 - k2) (by omega) (by omega)
            have s0 := (sinU_in (n := 5400000 - k2) (by omega)).1
            have hur := icast (Int.le_of_lt c)
            have u1 := icast (show (1 : Int) ≤ u by omega)
            have m1 := Rat.mul_le_mul_of_nonneg_right hur s0
            have m2 := Rat.mul_le_mul_of_nonneg_left hc (rpos (Int.le_of_lt u0))
            unfold crU sU cU
            rw [if_pos (by omega), if_pos (by omega)]
            generalize sinU (5400000 - k2) = s at *
            generalize cosU (5400000 - k2) = d at *
            rw [show ((1 : Int) : Rat) = 1 from rfl] at u1
            generalize (u : Rat) = x at *
            generalize (v : Rat) = y at *
            clear hc hur
            grind
          · exact c
        · rw [side_gen_le z1 y1 (by omega)]
          have := crU_mono h (by omega) y1 (Int.le_of_lt u0) v0
          generalize crU k1 u v = a at *
          generalize crU k2 u v = b at *
          grind
theorem rch_side {k : Nat} (hk : k < 5400000) {u v : Int} (u0 : 0 < u) (u1 : u ≤ 2147483648) (v0 : 0 ≤ v) (v1 : v ≤ 2147483648) : rchB u v k = decide (sideV k u v ≤ 0) := by
  unfold rchB
  by_cases z : k = 0
  · subst z
    rw [if_pos rfl, decide_eq_true (sideV_0 v0)]
  · rw [if_neg z]
    by_cases y : k = 2700000
    · subst y
      rw [if_pos rfl]
      exact decide_eq_decide.2 (side_half u v).symm
    · rw [if_neg y]
      refine decide_eq_decide.2 ?_
      have hf := far_cr far_all (k := k) (by omega) (Int.le_of_lt u0) u1 v0 v1 (.inl (by omega))
      rw [cr_prog (by omega) (Int.le_of_lt u0) u1 v0 v1 hf, side_gen_le z y (by omega)]
      unfold gU at hf
      generalize crU k u v = c at *
      constructor
      · intro h; grind
      · intro h; grind
theorem bisF_eq {u v : Int} {k : Nat} (hy : ∀ m, m ≤ k → rchB u v m = true) (hn : ∀ m, k < m → m < 5400000 → rchB u v m = false) : ∀ f l h : Nat, l ≤ k → k < h → h ≤ 5400000 → h - l ≤ 2 ^ f → bisF u v f l h = k
  | 0, l, h, h1, h2, h3, h4 => by
    simp at h4
    show l = k
    omega
  | f + 1, l, h, h1, h2, h3, h4 => by
    unfold bisF
    by_cases c : l + 1 < h
    · rw [if_pos c]
      rw [Nat.pow_succ] at h4
      by_cases d : (l + h) / 2 ≤ k
      · rw [if_pos (hy _ d)]
        exact bisF_eq hy hn f _ h d h2 h3 (by omega)
      · rw [hn _ (by omega) (by omega), if_neg (by decide)]
        exact bisF_eq hy hn f l _ h1 (by omega) (by omega) (by omega)
    · rw [if_neg c]
      omega
theorem exF_side {k : Nat} (hk : k < 5400000) (u v : Int) : (sideV k u v == 0) = exF u v k := by
  unfold exF
  by_cases z : k = 0
  · subst z
    unfold sideV sgI
    rw [if_pos rfl]
    by_cases c1 : v = 0
    · subst c1; simp
    · have : (if -v < 0 then (-1 : Int) else if 0 < -v then 1 else 0) ≠ 0 := by split <;> (try split) <;> omega
      rw [beq_eq_false_iff_ne.2 this]
      simp [c1]
  · by_cases y : k = 2700000
    · subst y
      unfold sideV sgI
      rw [if_neg z, if_pos rfl]
      by_cases c1 : u = v
      · subst c1; simp
      · have : (if u - v < 0 then (-1 : Int) else if 0 < u - v then 1 else 0) ≠ 0 := by split <;> (try split) <;> omega
        rw [beq_eq_false_iff_ne.2 this]
        simp [c1]
    · rw [side_gen z y (by omega)]
      simp only [z, y, false_and, decide_false, Bool.or_false]
      split <;> rfl
theorem flo_ang {u v : Int} {k : Nat} (u0 : 0 < u) (u1 : u ≤ 2147483648) (v0 : 0 ≤ v) (v1 : v ≤ 2147483648) (h : FloI u v k) : k = bisF u v 23 0 5400000 ∧ (sideV k u v == 0) = exF u v k := by
  refine ⟨(bisF_eq ?_ ?_ 23 0 5400000 (by omega) h.lt (Nat.le_refl _) (by decide)).symm, exF_side h.lt u v⟩
  · intro m hm
    rw [rch_side (by have := h.lt; omega) u0 u1 v0 v1]
    refine decide_eq_true ?_
    rcases Nat.lt_or_ge m k with c | c
    · exact sideV_mono c (by have := h.lt; omega) u0 v0 h.lo
    · rw [show m = k by omega]; exact h.lo
  · intro m hm hm2
    rw [rch_side hm2 u0 u1 v0 v1]
    refine decide_eq_false ?_
    intro hs
    have hh := h.hi
    rcases Nat.lt_or_ge (k + 1) m with c | c
    · have := sideV_mono c (by omega) u0 v0 hs
      omega
    · rw [show m = k + 1 by omega] at hs
      omega
end Go.Proofs.YtnnmfdeeicpdlaaGreat
/- The reference's Angle, before, Origin. -/
namespace Go.Proofs.YtnnmfdeeicpdlaaGreat
set_option maxHeartbeats 2000000
open Go.RowKit

def pXt (X Y : Int) : Nat → Int
  | 0 => X
  | 1 => Y
  | 2 => -X
  | _ => -Y
def pYt (X Y : Int) : Nat → Int
  | 0 => Y
  | 1 => -X
  | 2 => -Y
  | _ => X
theorem pt_step (X Y : Int) {t : Nat} (h : t < 3) : pXt X Y (t + 1) = pYt X Y t ∧ pYt X Y (t + 1) = -(pXt X Y t) := by
  rcases (show t = 0 ∨ t = 1 ∨ t = 2 by omega) with rfl | rfl | rfl
  · exact ⟨rfl, rfl⟩
  · exact ⟨rfl, rfl⟩
  · exact ⟨rfl, by show X = -(-X); omega⟩
theorem pt_bd {X Y : Int} (hx : Bd31 X) (hy : Bd31 Y) (t : Nat) : (-2147483648 ≤ pXt X Y t ∧ pXt X Y t ≤ 2147483648) ∧ (-2147483648 ≤ pYt X Y t ∧ pYt X Y t ≤ 2147483648) := by
  obtain ⟨a, b⟩ := hx
  obtain ⟨c, d⟩ := hy
  rcases t with _ | _ | _ | t
  · exact ⟨⟨a, b⟩, c, d⟩
  · exact ⟨⟨c, d⟩, by show -2147483648 ≤ -X; omega, by show -X ≤ 2147483648; omega⟩
  · exact ⟨⟨by show -2147483648 ≤ -X; omega, by show -X ≤ 2147483648; omega⟩, by show -2147483648 ≤ -Y; omega, by show -Y ≤ 2147483648; omega⟩
  · exact ⟨⟨by show -2147483648 ≤ -Y; omega, by show -Y ≤ 2147483648; omega⟩, a, b⟩
set_option maxRecDepth 100000 in
theorem r7_AngleT (X Y : Int) (T : Nat) (w : World) (hx : Bd31 X) (hy : Bd31 Y) (hT : T ≤ 3) (hgo : ∀ t, t < T → pXt X Y t ≤ 0 ∨ pYt X Y t < 0) (hp : 0 < pXt X Y T) (hq : 0 ≤ pYt X Y T) :
    Calls Tryz.prog 126 #[(.agg #[.int .i64 (X), .int .i64 (Y)])] w fun e w' => e = .returned (.tuple #[.int .i64 (5400000 * (T : Int) + (bisF (pXt X Y T) (pYt X Y T) 23 0 5400000 : Nat)), .bool (exF (pXt X Y T) (pYt X Y T) (bisF (pXt X Y T) (pYt X Y T) 23 0 5400000))]) ∧ ∃ d, w' = bw w d := by
  have hb := pt_bd hx hy T
  have HF := Lib.hid (fun W => r7_floor (pXt X Y T) (pYt X Y T) W hp hb.1.2 hq hb.2.2)
  have hA := fun k (h : FloI (pXt X Y T) (pYt X Y T) k) => flo_ang hp hb.1.2 hq hb.2.2 h
  obtain ⟨B, hB⟩ : ∃ B, bisF (pXt X Y T) (pYt X Y T) 23 0 5400000 = B := ⟨_, rfl⟩
  rw [hB] at hA ⊢
  obtain ⟨EX, hEX⟩ : ∃ EX, exF (pXt X Y T) (pYt X Y T) B = EX := ⟨_, rfl⟩
  rw [hEX]
  have HA := Lib.hid (fun k (h : FloI (pXt X Y T) (pYt X Y T) k) => show k = B ∧ (sideV k (pXt X Y T) (pYt X Y T) == 0) = EX by
    obtain ⟨a, b⟩ := hA k h
    refine ⟨a, ?_⟩
    rw [b, a, hEX])
  clear hA hB hEX
  have HG := Lib.hid (And.intro hT hgo)
  have HB := Lib.hid (pt_bd hx hy)
  have HP := Lib.hid (And.intro hp hq)
  clear hx hy hT hgo hp hq hb
  refine lay_start ?_
  go_enter Tryz.func126, Tryz.ntmps126
  go_wp2_with fail
  go_loopw [4] (fun v4 wr => ∃ t : Nat, t ≤ T ∧ v4 = .int .i64 (t : Int) ∧ wr = lay w [.inl (.cells #[.int .i64 (pXt X Y t), .int .i64 (pYt X Y t)] 172 (0, 0))]) (fun v4 _ => (4 - intOf v4).toNat)
  case atStart => exact ⟨0, Nat.zero_le _, rfl, rfl⟩
  case round =>
    obtain ⟨t, ht, rfl, rfl⟩ := hrel
    by_cases c : t < T
    · have h3 := HG.out.1
      have hc := HG.out.2 t c
      have hb := HB.out t
      have hst := pt_step X Y (t := t) (by omega)
      have HST := Lib.hid hst
      have t4 : decide ((t : Int) < 4) = true := decide_eq_true (by omega)
      have kt : IntKind.i64.wrap ((t : Int) + 1) = (t : Int) + 1 := IntWalk.i64_in _ (by omega)
      have HC := Lib.hid c
      have HT := Lib.hid (show t < 4 by omega)
      generalize pXt X Y t = P at *
      generalize pYt X Y t = Q at *
      have kP : IntKind.i64.wrap (-P) = -P := IntWalk.i64_in _ (by omega)
      by_cases cP : P ≤ 0
      · have u1 : decide (P ≤ 0) = true := decide_eq_true cP
        clear hc hb hst h3 cP c ht
        go_wp2_with fail
        go_roundw
        case rel => exact ⟨t + 1, HC.out, by go_num, by rw [HST.out.1, HST.out.2]⟩
        case measure => have := HT.out; simp [intOf]; omega
      · have u1 : decide (P ≤ 0) = false := decide_eq_false cP
        have u2 : decide (Q < 0) = true := decide_eq_true (by omega)
        clear hc hb hst h3 cP c ht
        go_wp2_with fail
        go_roundw
        case rel => exact ⟨t + 1, HC.out, by go_num, by rw [HST.out.1, HST.out.2]⟩
        case measure => have := HT.out; simp [intOf]; omega
    · obtain rfl : t = T := by omega
      have hpq := HP.out
      have u1 : decide (pXt X Y t ≤ 0) = false := decide_eq_false (by omega)
      have u2 : decide (pYt X Y t < 0) = false := decide_eq_false (by omega)
      have t4 : decide ((t : Int) < 4) = true := decide_eq_true (by have := HG.out.1; omega)
      have h3 := HG.out.1
      have HA2 := HA
      generalize pXt X Y t = P at *
      generalize pYt X Y t = Q at *
      clear hpq c ht HB HG
      go_wp2_with fail
      refine (HF.out _).mono ?_
      rintro e w' ⟨k, d1, hk, rfl, rfl⟩
      obtain ⟨hk1, hk2⟩ := HA.out k hk
      have hlt := hk.lt
      subst hk1
      rw [hk2, lay_bw]
      clear hk2 hk HA2
      clear HA HF HP
      obtain ⟨S, hS⟩ : ∃ S : Int, 5400000 * (t : Int) = S := ⟨_, rfl⟩
      have hS2 : (t : Int) * 5400000 = S := by omega
      obtain ⟨R, hR⟩ : ∃ R : Int, S + (k : Int) = R := ⟨_, rfl⟩
      have kS : IntKind.i64.wrap S = S := IntWalk.i64_in _ (by omega)
      have kR : IntKind.i64.wrap R = R := IntWalk.i64_in _ (by omega)
      have HSR := Lib.hid (show 5400000 * (t : Int) + (k : Int) = R by omega)
      clear hS hlt h3
      go_wp2_with fail
      refine bodyPost_ret (v := .tuple #[.int .i64 R, .bool EX]) (by simp [results, Tryz.results126, go_sem]) rfl ⟨by rw [HSR.out], lay_ex _ _⟩
theorem r7_Angle (X Y : Int) (w : World) (hx : Bd31 X) (hy : Bd31 Y) (hn : ¬ (X = 0 ∧ Y = 0)) :
    Calls Tryz.prog 126 #[(.agg #[.int .i64 (X), .int .i64 (Y)])] w fun e w' => e = .returned (.tuple #[.int .i64 (angF X Y).1, .bool (angF X Y).2]) ∧ ∃ d, w' = bw w d := by
  unfold angF ang1
  by_cases c0 : 0 < X ∧ 0 ≤ Y
  · rw [if_pos c0]
    exact r7_AngleT X Y 0 w hx hy (by decide) (fun t h => absurd h (Nat.not_lt_zero t)) c0.1 c0.2
  · rw [if_neg c0]
    by_cases c1 : 0 < Y ∧ X ≤ 0
    · rw [if_pos c1]
      exact r7_AngleT X Y 1 w hx hy (by decide) (fun t h => by
      obtain rfl : t = 0 := by omega
      exact .inl c1.2) c1.1 (by show 0 ≤ -X; omega)
    · rw [if_neg c1]
      by_cases c2 : X < 0 ∧ Y ≤ 0
      · rw [if_pos c2]
        refine r7_AngleT X Y 2 w hx hy (by decide) (fun t h => ?_) (by show 0 < -X; omega) (by show 0 ≤ -Y; omega)
        rcases (show t = 0 ∨ t = 1 by omega) with rfl | rfl
        · exact .inl (by show X ≤ 0; omega)
        · exact .inl c2.2
      · rw [if_neg c2]
        refine r7_AngleT X Y 3 w hx hy (by decide) (fun t h => ?_) (by show 0 < -Y; omega) (by show 0 ≤ X; omega)
        rcases (show t = 0 ∨ t = 1 ∨ t = 2 by omega) with rfl | rfl | rfl
        · exact .inr (by show Y < 0; omega)
        · exact .inl (by show Y ≤ 0; omega)
        · exact .inl (by show -X ≤ 0; omega)
theorem prodR_bd {a b : Int} (ha : Bd31 a) (hb : Bd31 b) : -4611686018427387904 ≤ a * b ∧ a * b ≤ 4611686018427387904 := by
  obtain ⟨a0, a1⟩ := ha
  obtain ⟨b0, b1⟩ := hb
  have h := Int.mul_le_mul (show (a.natAbs : Int) ≤ 2147483648 by omega) (show (b.natAbs : Int) ≤ 2147483648 by omega) (Int.natCast_nonneg _) (by decide)
  rw [← Int.natCast_mul, ← Int.natAbs_mul] at h
  omega
def befR (a b c d : Int) : Bool := decide (b * c < a * d)
theorem r7_before (a b c d : Int) (w : World) (ha : Bd31 a) (hb : Bd31 b) (hc : Bd31 c) (hd : Bd31 d) :
    Calls Tryz.prog 125 #[(.agg #[.int .i64 (a), .int .i64 (b)]), (.agg #[.int .i64 (c), .int .i64 (d)])] w fun e w' => e = .returned (.bool (befR a b c d)) ∧ ∃ d, w' = bw w d := by
  obtain ⟨P, hP⟩ : ∃ P, a * d = P := ⟨_, rfl⟩
  obtain ⟨Q, hQ⟩ : ∃ Q, b * c = Q := ⟨_, rfl⟩
  have bP := prodR_bd ha hd
  have bQ := prodR_bd hb hc
  unfold befR
  rw [hP] at bP ⊢
  rw [hQ] at bQ ⊢
  have kP : IntKind.i64.wrap P = P := IntWalk.i64_in _ (by omega)
  have kQ : IntKind.i64.wrap Q = Q := IntWalk.i64_in _ (by omega)
  clear ha hb hc hd bP bQ
  refine lay_start ?_
  go_enter Tryz.func125, Tryz.ntmps125
  go_wp2_with fail
  go_ret
  exact ⟨rfl, lay_ex _ _⟩
end Go.Proofs.YtnnmfdeeicpdlaaGreat
/- Directions in order: the bisection grows with the direction; three points in a half-plane. No function of the program. -/
namespace Go.Proofs.YtnnmfdeeicpdlaaGreat
open Go.RowKit

theorem coA_nn {k : Nat} (h0 : 0 < k) (hk : k < 5400000) : 0 ≤ coA k := by
  rcases Int.lt_or_le (coA k) 0 with h | h
  · exfalso
    obtain ⟨n1, n2⟩ := (siA_near (k := k) (by omega)).2
    obtain ⟨b1, b2⟩ := (back_q k).1
    have z := zS_min (m := 5400000 - (k : Int)) (by omega) (by omega)
    have e : zS ((k : Int) - 5400000) = -(zS (5400000 - (k : Int))) := by rw [← zS_neg]; congr 1; omega
    have hd : (coA k : Rat) / (m192 : Rat) ≤ 0 := by
      have := div_mono (Int.le_of_lt h)
      have e0 : ((0 : Int) : Rat) / (m192 : Rat) = 0 := by rw [Rat.intCast_zero, Rat.div_def, Rat.zero_mul]
      rw [e0] at this
      exact this
    rw [e] at b1 b2
    unfold eA at n2
    unfold e60 at b2
    grind
  · exact h
theorem le_cancel {a b u : Int} (hu : 0 < u) (h : a * u ≤ b * u) : a ≤ b := Int.le_of_mul_le_mul_right h hu
theorem rch_mono {u v u' v' : Int} {k : Nat} (hk : k < 5400000) (hu : 0 < u) (hu' : 0 < u') (h : v * u' ≤ v' * u) (hr : rchB u v k = true) : rchB u' v' k = true := by
  unfold rchB at *
  by_cases k0 : k = 0
  · rw [if_pos k0]
  · rw [if_neg k0] at hr ⊢
    by_cases k1 : k = 2700000
    · rw [if_pos k1, decide_eq_true_eq] at hr ⊢
      have h1 := Int.mul_le_mul_of_nonneg_right hr (Int.le_of_lt hu')
      refine le_cancel hu ?_
      have e : u' * u = u * u' := Int.mul_comm _ _
      omega
    · rw [if_neg k1, decide_eq_true_eq] at hr ⊢
      have hc := coA_nn (k := k) (by omega) hk
      have h1 := Int.mul_le_mul_of_nonneg_right hr (Int.le_of_lt hu')
      have h2 := Int.mul_le_mul_of_nonneg_left h hc
      generalize siA k = A at *
      generalize coA k = C at *
      refine le_cancel hu ?_
      have e1 : A * u' * u = A * u * u' := by grind
      have e2 : C * (v * u') = C * v * u' := by grind
      have e3 : C * (v' * u) = C * v' * u := by grind
      omega
theorem bisF_ge {u v : Int} : ∀ {f l h : Nat}, l ≤ bisF u v f l h
  | 0, l, h => Nat.le_refl _
  | f + 1, l, h => by
    unfold bisF
    split
    · split
      · have := bisF_ge (u := u) (v := v) (f := f) (l := (l + h) / 2) (h := h)
        omega
      · exact bisF_ge
    · exact Nat.le_refl _
theorem bisF_mono {u v u' v' : Int} (hr : ∀ k, k < 5400000 → rchB u v k = true → rchB u' v' k = true) : ∀ {f l h : Nat}, h ≤ 5400000 → bisF u v f l h ≤ bisF u' v' f l h
  | 0, l, h, _ => Nat.le_refl _
  | f + 1, l, h, hh => by
    unfold bisF
    by_cases c : l + 1 < h
    · rw [if_pos c, if_pos c]
      have hm := hr ((l + h) / 2) (by omega)
      cases c1 : rchB u v ((l + h) / 2)
      · rw [if_neg Bool.false_ne_true]
        cases c2 : rchB u' v' ((l + h) / 2)
        · rw [if_neg Bool.false_ne_true]
          exact bisF_mono hr (by omega)
        · rw [if_pos rfl]
          have h1 := bisF_lt (u := u) (v := v) (f := f) (l := l) (h := (l + h) / 2) (by omega)
          have h2 := bisF_ge (u := u') (v := v') (f := f) (l := (l + h) / 2) (h := h)
          omega
      · rw [hm c1, if_pos rfl, if_pos rfl]
        exact bisF_mono hr hh
    · rw [if_neg c, if_neg c]; exact Nat.le_refl _
def qx (q u v : Int) : Int := if q = 0 then u else if q = 1 then -v else if q = 2 then -u else v
def qy (q u v : Int) : Int := if q = 0 then v else if q = 1 then u else if q = 2 then -v else -u
structure QuadP (X Y : Int) (q u v : Int) (k : Nat) : Prop where
  q0 : 0 ≤ q
  q3 : q ≤ 3
  u0 : 0 < u
  v0 : 0 ≤ v
  x : X = qx q u v
  y : Y = qy q u v
  kv : k = bisF u v 23 0 5400000
  ang : (angF X Y).1 = 5400000 * q + (k : Int)
theorem quad_ex {X Y : Int} (h : ¬ (X = 0 ∧ Y = 0)) : ∃ q u v k, QuadP X Y q u v k := by
  by_cases c0 : 0 < X ∧ 0 ≤ Y
  · exact ⟨0, X, Y, _, ⟨by decide, by decide, c0.1, c0.2, by simp [qx], by simp [qy], rfl, by unfold angF; rw [if_pos c0]; rfl⟩⟩
  · by_cases c1 : 0 < Y ∧ X ≤ 0
    · exact ⟨1, Y, -X, _, ⟨by decide, by decide, c1.1, by omega, by simp [qx], by simp [qy], rfl, by unfold angF; rw [if_neg c0, if_pos c1]; rfl⟩⟩
    · by_cases c2 : X < 0 ∧ Y ≤ 0
      · exact ⟨2, -X, -Y, _, ⟨by decide, by decide, by omega, by omega, by simp [qx], by simp [qy], rfl, by unfold angF; rw [if_neg c0, if_neg c1, if_pos c2]; rfl⟩⟩
      · exact ⟨3, -Y, X, _, ⟨by decide, by decide, by omega, by omega, by simp [qx], by simp [qy], rfl, by unfold angF; rw [if_neg c0, if_neg c1, if_neg c2]; rfl⟩⟩
theorem QuadP.lt {X Y q u v : Int} {k : Nat} (h : QuadP X Y q u v k) : k < 5400000 := by rw [h.kv]; exact bisF_lt (by decide)
def crs (X Y X' Y' : Int) : Int := X * Y' - Y * X'
theorem crs_quad {X Y X' Y' q a b q' c d : Int} {k k' : Nat} (h : QuadP X Y q a b k) (g : QuadP X' Y' q' c d k') :
    ((q' - q) % 4 = 0 → crs X Y X' Y' = a * d - b * c) ∧ ((q' - q) % 4 = 1 → crs X Y X' Y' = a * c + b * d) ∧ ((q' - q) % 4 = 2 → crs X Y X' Y' = -(a * d - b * c)) ∧ ((q' - q) % 4 = 3 → crs X Y X' Y' = -(a * c + b * d)) := by
  have h0 := h.q0
  have h3 := h.q3
  have g0 := g.q0
  have g3 := g.q3
  have hx := h.x
  have hy := h.y
  have gx := g.x
  have gy := g.y
  have hq : q = 0 ∨ q = 1 ∨ q = 2 ∨ q = 3 := by omega
  have gq : q' = 0 ∨ q' = 1 ∨ q' = 2 ∨ q' = 3 := by omega
  clear h g h0 h3 g0 g3
  unfold crs
  rcases hq with rfl | rfl | rfl | rfl <;> rcases gq with rfl | rfl | rfl | rfl
  all_goals
    simp only [qx, qy, Int.reduceEq, ↓reduceIte] at hx hy gx gy
    subst hx hy gx gy
    refine ⟨fun h => ?_, fun h => ?_, fun h => ?_, fun h => ?_⟩ <;> first | (exfalso; revert h; decide) | grind
theorem crs_trans {X Y X' Y' X'' Y'' α β : Int} (h1 : 0 < α * X + β * Y) (h2 : 0 < α * X' + β * Y') (h3 : 0 < α * X'' + β * Y'') (c1 : 0 ≤ crs X Y X' Y') (c2 : 0 ≤ crs X' Y' X'' Y'') : 0 ≤ crs X Y X'' Y'' := by
  have m1 := Int.mul_nonneg c1 (Int.le_of_lt h3)
  have m2 := Int.mul_nonneg c2 (Int.le_of_lt h1)
  have e : crs X Y X'' Y'' * (α * X' + β * Y') = crs X Y X' Y' * (α * X'' + β * Y'') + crs X' Y' X'' Y'' * (α * X + β * Y) := by unfold crs; grind
  refine le_cancel h2 ?_
  rw [Int.zero_mul, e]
  omega
theorem same_quad {a b c d : Int} {k k' : Nat} (ha : 0 < a) (hc : 0 < c) (hk : k = bisF a b 23 0 5400000) (hk' : k' = bisF c d 23 0 5400000) (h : b * c ≤ d * a) : k ≤ k' := by
  rw [hk, hk']
  exact bisF_mono (fun k hk hr => rch_mono hk ha hc h hr) (Nat.le_refl _)
end Go.Proofs.YtnnmfdeeicpdlaaGreat
/- cosine's chain of operations: each gives its enclosure, and no error is kept. -/
namespace Go.Proofs.YtnnmfdeeicpdlaaGreat
open Go.RowKit

end Go.Proofs.YtnnmfdeeicpdlaaGreat
/- cosine.Valid, altitude, Altitude. -/
namespace Go.Proofs.YtnnmfdeeicpdlaaGreat
open Go.RowKit

end Go.Proofs.YtnnmfdeeicpdlaaGreat
/- cosine: neg, sub, azimuth, Azimuth, Solve. -/
namespace Go.Proofs.YtnnmfdeeicpdlaaGreat
open Go.RowKit

def mL (p q : Int × Int) : Int × Int := (mulL p.1 p.2 q.1 q.2, mulH p.1 p.2 q.1 q.2)
def UnI (p : Int × Int) : Prop := -1073741824 ≤ p.1 ∧ p.1 ≤ p.2 ∧ p.2 ≤ 1073741824
theorem UnI.mul {p q : Int × Int} (h : UnI p) (k : UnI q) : UnI (mL p q) := mul_unit h.1 h.2.1 h.2.2 k.1 k.2.1 k.2.2
theorem UnI.fx {p : Int × Int} (h : UnI p) : fxB p.1 p.2 = true := unit_fx h
end Go.Proofs.YtnnmfdeeicpdlaaGreat
/- Rows of records of k cells: slices that read as a list, rows of the call's own, an append of one record or of a whole slice, a store into a record. No function of the program. -/
namespace Go.Proofs.YtnnmfdeeicpdlaaGreat
open Go.RowKit

structure RecT (α : Type) where
  E : TypeId
  S : TypeId
  k : Nat
  bytes : Nat
  enc : α → List Value
  wf : α → Prop
structure RecOk {α : Type} (R : RecT α) : Prop where
  len : ∀ x, (R.enc x).length = R.k
  one : ∀ x, ∀ u ∈ R.enc x, u.oneCell' = true
  pos : 0 < R.k
  und : Tryz.prog.underlying R.S = some (.slice R.E)
  info : ∃ i z, Tryz.prog.info? R.E = some i ∧ i.zero = some z ∧ i.size = R.k ∧ i.bytes = R.bytes ∧ z.cells.size = R.k
  small : R.bytes ≤ 1000
variable {α : Type} {R : RecT α}

theorem flat_len (hR : RecOk R) (l : List α) : (l.flatMap R.enc).length = l.length * R.k := by
  induction l with
  | nil => simp
  | cons x l ih => rw [List.flatMap_cons, List.length_append, hR.len, ih, List.length_cons, Nat.succ_mul, Nat.add_comm]
theorem flat_get (hR : RecOk R) : ∀ {l : List α} {i j : Nat} {x : α}, l[i]? = some x → j < R.k → (l.flatMap R.enc)[i * R.k + j]? = (R.enc x)[j]?
  | [], i, j, x, h, _ => by simp at h
  | y :: l, 0, j, x, h, hj => by
    simp only [List.getElem?_cons_zero, Option.some.injEq] at h
    subst h
    rw [List.flatMap_cons, List.getElem?_append_left (by rw [hR.len]; omega)]
    congr 1; omega
  | y :: l, i + 1, j, x, h, hj => by
    rw [List.getElem?_cons_succ] at h
    rw [List.flatMap_cons, List.getElem?_append_right (by rw [hR.len, Nat.succ_mul]; omega), hR.len]
    rw [show (i + 1) * R.k + j - R.k = i * R.k + j by rw [Nat.succ_mul]; omega]
    exact flat_get hR h hj
theorem flat_set (hR : RecOk R) : ∀ {l : List α} {i j : Nat} {x y : α} {u : Value}, l[i]? = some x → j < R.k → R.enc y = (R.enc x).set j u → (l.flatMap R.enc).set (i * R.k + j) u = (l.set i y).flatMap R.enc
  | [], i, j, x, y, u, h, _, _ => by simp at h
  | z :: l, 0, j, x, y, u, h, hj, he => by
    simp only [List.getElem?_cons_zero, Option.some.injEq] at h
    subst h
    rw [List.set_cons_zero, List.flatMap_cons, List.flatMap_cons, List.set_append, if_pos (by rw [hR.len]; omega), he]
    congr 2; omega
  | z :: l, i + 1, j, x, y, u, h, hj, he => by
    rw [List.getElem?_cons_succ] at h
    rw [List.set_cons_succ, List.flatMap_cons, List.flatMap_cons, List.set_append, if_neg (by rw [hR.len, Nat.succ_mul]; omega), hR.len]
    rw [show (i + 1) * R.k + j - R.k = i * R.k + j by rw [Nat.succ_mul]; omega, flat_set hR h hj he]

def SlG (R : RecT α) (w : World) (v : Value) (l : List α) : Prop :=
  ∃ a cap, v = .slice a l.length cap ∧ (l.length ≤ cap ∧ cap ≤ 9223372036854775807) ∧ (∀ x ∈ l, R.wf x) ∧
    (l ≠ [] → ∃ b o, a = some ⟨b, o, none⟩ ∧ b < w.heap.size ∧ ∀ (i : Nat) x, l[i]? = some x → ∀ (j : Nat) u, (R.enc x)[j]? = some u → w.cell? ⟨b, o + (i * R.k + j), none⟩ = some u)
theorem SlG.ext {w w' : World} {v : Value} {l : List α} (h : SlG R w v l) (hb : Below w.heap.size w w') : SlG R w' v l := by
  obtain ⟨a, cap, h1, h2, h0, h3⟩ := h
  refine ⟨a, cap, h1, h2, h0, fun hl => ?_⟩
  obtain ⟨b, o, h4, h5, h6⟩ := h3 hl
  exact ⟨b, o, h4, Nat.lt_of_lt_of_le h5 hb.size, fun i x hx j u hu => (hb.cell (p := ⟨b, o + (i * R.k + j), none⟩) h5).trans (h6 i x hx j u hu)⟩
theorem SlG.bw {w : World} {v : Value} {l : List α} (h : SlG R w v l) (d : Ext) : SlG R (bw w d) v l := h.ext (bw_below w d)
theorem SlG.lay {w : World} {v : Value} {l : List α} (h : SlG R w v l) (L : List (Obj ⊕ Ext)) : SlG R (lay w L) v l := h.ext (lay_extends w L)
theorem lay_appG (w : World) (A B : List (Obj ⊕ Ext)) : lay w (A ++ B) = lay (lay w B) A := by
  induction A with
  | nil => rfl
  | cons x A ih =>
    cases x with
    | inl o => exact congrArg (fun W => World.alloc W o) ih
    | inr d => exact congrArg (fun W => Go.Proofs.YtnnmfdeeicpdlaaGreat.bw W d) ih
theorem lay_belowG {w : World} {A B : List (Obj ⊕ Ext)} : Below (lay w B).heap.size (lay w B) (lay w (A ++ B)) := by rw [lay_appG]; exact lay_extends _ _
theorem SlG.nil (R : RecT α) (w : World) : SlG R w (.slice none 0 0) [] := ⟨none, 0, rfl, by simp, fun _ h => absurd h (List.not_mem_nil), fun h => absurd rfl h⟩
theorem SlG.open {w : World} {v : Value} {l : List α} (h : SlG R w v l) (hl : 0 < l.length) :
    ∃ b o cap, v = .slice (some ⟨b, o, none⟩) l.length cap ∧ (l.length ≤ cap ∧ cap ≤ 9223372036854775807) ∧ b < w.heap.size ∧ ∀ (i : Nat) x, l[i]? = some x → ∀ (j : Nat) u, (R.enc x)[j]? = some u → w.cell? ⟨b, o + (i * R.k + j), none⟩ = some u := by
  obtain ⟨a, cap, rfl, h2, _, h3⟩ := h
  obtain ⟨b, o, rfl, h5, h6⟩ := h3 (by intro e; rw [e] at hl; exact Nat.lt_irrefl 0 hl)
  exact ⟨b, o, cap, rfl, h2, h5, h6⟩
theorem SlG.wf {w : World} {v : Value} {l : List α} (h : SlG R w v l) : ∀ x ∈ l, R.wf x := by
  obtain ⟨_, _, _, _, h, _⟩ := h; exact h
theorem SlG.form {w : World} {v : Value} {l : List α} (h : SlG R w v l) : ∃ a cap, v = .slice a l.length cap := by
  obtain ⟨a, c, e, _⟩ := h; exact ⟨a, c, e⟩
def OwG (R : RecT α) (w : World) (base : Nat) (v : Value) (l : List α) : Prop :=
  w.ownsRow base R.E R.k v l.length (l.flatMap R.enc) ∧ ∀ x ∈ l, R.wf x
theorem OwG.nil (R : RecT α) (w : World) (base : Nat) : OwG R w base (.slice none 0 0) [] := ⟨World.ownsRow_nil w base _ _, fun _ h => absurd h (List.not_mem_nil)⟩
theorem OwG.form {w : World} {base : Nat} {v : Value} {l : List α} (h : OwG R w base v l) : ∃ a cap, v = .slice a l.length cap := by
  rcases h.1.2 with ⟨rfl, hz⟩ | ⟨g, cap, cur, rfl, _⟩
  · exact ⟨none, 0, by rw [hz]⟩
  · exact ⟨_, cap, rfl⟩
theorem OwG.form1 {w : World} {base : Nat} {v : Value} {l : List α} (h : OwG R w base v l) (hl : 0 < l.length) : ∃ g cap, v = .slice (some ⟨g, 0, none⟩) l.length cap ∧ base ≤ g ∧ g < w.heap.size ∧ l.length ≤ cap ∧ cap ≤ 9223372036854775807 := by
  rcases h.1.2 with ⟨rfl, hz⟩ | ⟨g, cap, cur, rfl, h1, h2, h3, h4, _⟩
  · omega
  · have hM : maxLen = 9223372036854775807 := by decide
    exact ⟨g, cap, rfl, h1, (Array.getElem?_eq_some_iff.1 h2).1, h3, by omega⟩
theorem OwG.cell (hR : RecOk R) {w : World} {base g cap n : Nat} {l : List α} (h : OwG R w base (.slice (some ⟨g, 0, none⟩) n cap) l) {i j : Nat} {x : α} {u : Value} (hx : l[i]? = some x) (hu : (R.enc x)[j]? = some u) : w.cell? ⟨g, i * R.k + j, none⟩ = some u := by
  have hn : n = l.length := by
    obtain ⟨a, c, e⟩ := h.form
    cases e; rfl
  subst hn
  have hi := (List.getElem?_eq_some_iff.1 hx).1
  have hj : j < R.k := by have := (List.getElem?_eq_some_iff.1 hu).1; rw [hR.len] at this; exact this
  rw [h.1.cellAt _ (by have : (i + 1) * R.k ≤ l.length * R.k := Nat.mul_le_mul_right _ hi
                       rw [Nat.succ_mul] at this; omega), flat_get hR hx hj, hu]
theorem OwG.froz {w : World} {base g cap n : Nat} {l : List α} (h : OwG R w base (.slice (some ⟨g, 0, none⟩) n cap) l) (j : Nat) : w.frozen? ⟨g, j, none⟩ = false := by
  have hn : n = l.length := by
    obtain ⟨a, c, e⟩ := h.form
    cases e; rfl
  subst hn
  exact h.1.frozenAt j
theorem OwG.sl (hR : RecOk R) {w : World} {base : Nat} {v : Value} {l : List α} (h : OwG R w base v l) : SlG R w v l := by
  by_cases hl : l = []
  · subst hl
    rcases h.1.2 with ⟨rfl, hz⟩ | ⟨g, cap, cur, rfl, _, _, h3, h4, _⟩
    · exact SlG.nil R w
    · have hM : maxLen = 9223372036854775807 := by decide
      exact ⟨_, cap, rfl, ⟨h3, by omega⟩, h.2, fun hne => absurd rfl hne⟩
  · have hl' : 0 < l.length := List.length_pos_iff.2 hl
    obtain ⟨g, cap, rfl, h1, h2, h3⟩ := h.form1 hl'
    exact ⟨_, cap, rfl, h3, h.2, fun _ => ⟨g, 0, rfl, h2, fun i x hx j u hu => by rw [Nat.zero_add]; exact h.cell hR hx hu⟩⟩
theorem OwG.ext {w w' : World} {base : Nat} {v : Value} {l : List α} (h : OwG R w base v l) (hb : Below w.heap.size w w') : OwG R w' base v l := by
  refine ⟨⟨h.1.1, h.1.2.imp id ?_⟩, h.2⟩
  rintro ⟨g, cap, cur, e, h1, h2, h3⟩
  exact ⟨g, cap, cur, e, h1, (hb.block g (Array.getElem?_eq_some_iff.1 h2).1).trans h2, h3⟩
theorem OwG.lay {w : World} {base : Nat} {v : Value} {l : List α} (h : OwG R w base v l) (L : List (Obj ⊕ Ext)) : OwG R (lay w L) base v l := h.ext (lay_extends w L)
theorem OwG.bw {w : World} {base : Nat} {v : Value} {l : List α} (h : OwG R w base v l) (d : Ext) : OwG R (bw w d) base v l := h.ext (bw_below w d)
theorem OwG.le {w : World} {base base' : Nat} {v : Value} {l : List α} (h : OwG R w base v l) (hb : base' ≤ base) : OwG R w base' v l := ⟨⟨h.1.1, h.1.2.imp id fun ⟨g, cap, cur, e, h1, h2⟩ => ⟨g, cap, cur, e, Nat.le_trans hb h1, h2⟩⟩, h.2⟩
theorem owG_on {w : World} {base : Nat} {v : Value} {l : List α} {A B : List (Obj ⊕ Ext)} (h : OwG R (lay w B) base v l) : OwG R (lay w (A ++ B)) base v l := h.ext lay_belowG

theorem push_rec (hR : RecOk R) {ops : Array Oper} {rest : List Oper} {o : Oper} {a : Act} {Q : Exit → Act → World → Prop} (hgd : o.guard = none) (s x : Operand)
    (ho : o.op = .call { callee := .builtin .append, args := #[s, x], argTypes := #[R.S, R.S] })
    (W0 : World) (wb : World) (c : α) (cs : Array Value) (te : TypeId) (xb : Nat) (v : Value) (l : List α) (hw : Below W0.heap.size W0 wb) (hown : OwG R wb W0.heap.size v l)
    (hcell : wb.heap[xb]? = some (.cells cs te (0, 0))) (hcs : cs.toList = R.enc c) (hs : a.eval s = v) (hx : a.eval x = .slice (some ⟨xb, 0, none⟩) 1 1)
    (hn : l.length ≤ 1000000000) (hc : R.wf c)
    (h : ∀ v' d, OwG R (Go.Proofs.YtnnmfdeeicpdlaaGreat.bw W0 d) W0.heap.size v' (l ++ [c]) → wpList Tryz.prog ops Q rest (a.put o.dst v') (Go.Proofs.YtnnmfdeeicpdlaaGreat.bw W0 d)) :
    wpList Tryz.prog ops Q (o :: rest) a wb := by
  obtain ⟨i, z, hi, hz0, hz1, hz2, hz3⟩ := hR.info
  have hM : maxLen = 9223372036854775807 := by decide
  have hb := hR.small
  have hb2 : (l.length + 1) * R.bytes ≤ 1000000001 * 1000 := Nat.mul_le_mul (by omega) hb
  refine wpList_append_lies wb hgd s x R.S ho W0.heap.size R.E i z R.k R.bytes hR.und hi hz0 hz1 hz2 hz3 hR.pos v l.length (l.flatMap R.enc) hs hown.1 ⟨xb, 0, none⟩ 1 1 (R.enc c) hx (by rw [hR.len, Nat.one_mul]) (by rw [← hcs]; exact World.news_of_block hcell) (hR.one c) (by decide) (by omega) (by omega) hw.size wb.heap.size rfl ?_
  intro g cap w' hown' hg hat _
  obtain ⟨d, hd⟩ := bw_of (w := W0) (w' := w') (hw.grown hg hw.size (fun k hk => (hown.1.lt k hk).1))
  subst hd
  refine h _ d ⟨?_, fun y hy => ?_⟩
  · rw [List.flatMap_append, List.length_append]
    simpa using hown'
  · rcases List.mem_append.1 hy with hy | hy
    · exact hown.2 y hy
    · rw [List.mem_singleton.1 hy]; exact hc
theorem push_slG (hR : RecOk R) {ops : Array Oper} {rest : List Oper} {o : Oper} {a : Act} {Q : Exit → Act → World → Prop} (hgd : o.guard = none) (s x : Operand)
    (ho : o.op = .call { callee := .builtin .append, args := #[s, x], argTypes := #[R.S, R.S] })
    (W0 : World) (wb : World) (v1 : Value) (l1 : List α) (A : Option Addr) (n c : Nat) (l2 : List α) (hw : Below W0.heap.size W0 wb) (hown : OwG R wb W0.heap.size v1 l1)
    (hsrc : SlG R wb (.slice A n c) l2) (hA : A = none → c = 0) (hs : a.eval s = v1) (hx : a.eval x = .slice A n c) (hn : l1.length + l2.length ≤ 1000000000)
    (h : ∀ v' d, OwG R (Go.Proofs.YtnnmfdeeicpdlaaGreat.bw W0 d) W0.heap.size v' (l1 ++ l2) → wpList Tryz.prog ops Q rest (a.put o.dst v') (Go.Proofs.YtnnmfdeeicpdlaaGreat.bw W0 d)) :
    wpList Tryz.prog ops Q (o :: rest) a wb := by
  obtain ⟨i, z, hi, hz0, hz1, hz2, hz3⟩ := hR.info
  have hM : maxLen = 9223372036854775807 := by decide
  obtain ⟨a', cap', he, hcc, hwf, hcell⟩ := hsrc
  simp only [Value.slice.injEq] at he
  obtain ⟨rfl, rfl, rfl⟩ := he
  cases A with
  | none =>
    obtain rfl := hA rfl
    have hl2 : l2 = [] := by
      rcases List.eq_nil_or_concat l2 with h | ⟨_, _, h⟩
      · exact h
      · have : l2 ≠ [] := by rw [h]; simp
        obtain ⟨_, _, h, _⟩ := hcell this
        cases h
    subst hl2
    obtain ⟨d, rfl⟩ := bw_of hw
    refine wpList_append_own_none hgd s x R.S ho W0.heap.size R.E i R.k hR.und hi v1 l1.length (l1.flatMap R.enc) hs hown.1 hx ?_
    exact h v1 d (by rw [List.append_nil]; exact hown)
  | some ad =>
    have hb2 : (l1.length + l2.length) * R.bytes ≤ 1000000000 * 1000 := Nat.mul_le_mul hn hR.small
    refine wpList_append_own wb hgd s x R.S ho W0.heap.size R.E i z R.k R.bytes hR.und hi hz0 hz1 hz2 hz3 hR.pos v1 l1.length (l1.flatMap R.enc) hs hown.1 ad l2.length c (l2.flatMap R.enc) hx (flat_len hR l2) ?_ ?_ (by omega) (by omega) hw.size ?_
    · intro j u hu
      have hj : j < l2.length * R.k := by have := (List.getElem?_eq_some_iff.1 hu).1; rw [flat_len hR] at this; exact this
      have hne : l2 ≠ [] := by intro e; rw [e] at hj; simp at hj
      obtain ⟨b, o', e, _, hr⟩ := hcell hne
      cases e
      have hq : j / R.k < l2.length := Nat.div_lt_of_lt_mul (by rw [Nat.mul_comm]; exact hj)
      have hm : j % R.k < R.k := Nat.mod_lt _ hR.pos
      have e1 : j = j / R.k * R.k + j % R.k := by rw [Nat.mul_comm]; exact (Nat.div_add_mod j R.k).symm
      have hx' : l2[j / R.k]? = some l2[j / R.k] := List.getElem?_eq_getElem hq
      rw [e1, flat_get hR hx' hm] at hu
      have h3 := hr _ _ hx' _ _ hu
      rw [← e1] at h3
      have hadd : (⟨b, o', none⟩ : Addr).add j = ⟨b, o' + j, none⟩ := by
        unfold Addr.add
        split
        · rename_i h0
          have : j = 0 := by simpa using h0
          subst this; rfl
        · rfl
      rw [hadd]
      exact h3
    · intro u hu
      obtain ⟨y, _, hy⟩ := List.mem_flatMap.1 hu
      exact hR.one y u hy
    · intro v' w' hown' hg _
      obtain ⟨d, hd⟩ := bw_of (w := W0) (w' := w') (hw.grown hg hw.size (fun k hk => (hown.1.lt k hk).1))
      subst hd
      refine h v' d ⟨by rw [List.length_append, List.flatMap_append]; exact hown', fun y hy => ?_⟩
      rcases List.mem_append.1 hy with hy | hy
      · exact hown.2 y hy
      · exact hwf y hy
theorem owG_lit (hR : RecOk R) {w : World} {L : List (Obj ⊕ Ext)} {cs : Array Value} (l : List α) (hc : cs.toList = l.flatMap R.enc) (hl : l.length ≤ 1000) (hw : ∀ x ∈ l, R.wf x) :
    OwG R (Go.Proofs.YtnnmfdeeicpdlaaGreat.lay w (.inl (.cells cs R.E (0, 0)) :: L)) (Go.Proofs.YtnnmfdeeicpdlaaGreat.lay w L).heap.size (.slice (some ⟨posn w (shp L), 0, none⟩) l.length l.length) l := by
  rw [← lay_size w L]
  refine ⟨?_, hw⟩
  have := World.ownsRow_lit (base := (Go.Proofs.YtnnmfdeeicpdlaaGreat.lay w L).heap.size) (e := R.E) (size := R.k) (Go.Proofs.YtnnmfdeeicpdlaaGreat.lay w L) cs l.length (Nat.le_refl _) (by unfold maxLen; omega) (by rw [← Array.length_toList, hc, flat_len hR])
  rw [hc] at this
  exact this
theorem owG_store (hR : RecOk R) {w : World} {base g cap n : Nat} {l : List α} (h : OwG R w base (.slice (some ⟨g, 0, none⟩) n cap) l) {i j : Nat} {x y : α} {u : Value} (hx : l[i]? = some x) (hj : j < R.k) (he : R.enc y = (R.enc x).set j u) (hy : R.wf y) :
    OwG R (w.setCell ⟨g, i * R.k + j, none⟩ u) base (.slice (some ⟨g, 0, none⟩) n cap) (l.set i y) := by
  have hn : n = l.length := by
    obtain ⟨a, c, e⟩ := h.form
    cases e; rfl
  subst hn
  refine ⟨by have := (h.1.stored (i * R.k + j) u).1; rw [flat_set hR hx hj he] at this; rw [List.length_set]; exact this, fun z hz => ?_⟩
  rcases List.mem_or_eq_of_mem_set hz with hz | hz
  · exact h.2 z hz
  · rw [hz]; exact hy
theorem bw_storeG {w : World} {d : Ext} {g i : Nat} {v : Value} (hg : w.heap.size ≤ g) : ∃ d', (Go.Proofs.YtnnmfdeeicpdlaaGreat.bw w d).setCell ⟨g, i, none⟩ v = Go.Proofs.YtnnmfdeeicpdlaaGreat.bw w d' := by
  refine bw_of ?_
  have h1 := bw_below w d
  refine ⟨h1.1, h1.2, h1.3, ?_, fun k hk => ?_⟩
  · rw [World.size_setCell]; exact h1.size
  · rw [heap_setCell_other _ ⟨g, i, none⟩ k v (by intro e; have : k = g := by simpa using e
                                                  omega)]
    exact h1.block k hk
end Go.Proofs.YtnnmfdeeicpdlaaGreat
/- Lists of ints and tracks that came in: how they read; opening them off a row. -/
namespace Go.Proofs.YtnnmfdeeicpdlaaGreat
open Go.RowKit

def Lst (w : World) (v : Value) (l : List Int) : Prop :=
  ∃ a cap, v = .slice a l.length cap ∧ l.length ≤ 9223372036854775807 ∧ (∀ i, i < l.length → (Lit.int .i64 (l.getD i 0)).wf = true) ∧
    (l ≠ [] → ∃ b o, a = some ⟨b, o, none⟩ ∧ b < w.heap.size ∧ ∀ i, i < l.length → w.cell? ⟨b, o + i, none⟩ = some (.int .i64 (l.getD i 0)))
theorem Lst.bw {w : World} {v : Value} {l : List Int} (h : Lst w v l) (d : Ext) : Lst (bw w d) v l := by
  obtain ⟨a, cap, h1, h2, h0, h3⟩ := h
  refine ⟨a, cap, h1, h2, h0, fun hl => ?_⟩
  obtain ⟨b, o, h4, h5, h6⟩ := h3 hl
  exact ⟨b, o, h4, Nat.lt_of_lt_of_le h5 (bw_le w d), fun i hi => (bw_cell w d b (o + i) h5).trans (h6 i hi)⟩
theorem Lst.lay {w : World} {v : Value} {l : List Int} (h : Lst w v l) (L : List (Obj ⊕ Ext)) : Lst (lay w L) v l := by
  obtain ⟨d, hd⟩ := lay_ex w L
  rw [hd]; exact h.bw d
section
variable {H : Type} {enc : TypeId × Value → H} {P : Program}
structure TrkV where
  s : ByteArray
  g : List Int
  d : List Int
  p : Int
  q : Int
  r : Int
def Trk (w : World) (v : Value) (t : TrkV) : Prop :=
  ∃ vg vd, v = .agg #[.string t.s, vg, vd, .int .i64 t.p, .int .i64 t.q, .int .i64 t.r] ∧ t.s.size ≤ 9223372036854775807 ∧ Lst w vg t.g ∧ Lst w vd t.d ∧
    (Lit.int .i64 t.p).wf = true ∧ (Lit.int .i64 t.q).wf = true ∧ (Lit.int .i64 t.r).wf = true
theorem Trk.lay {w : World} {v : Value} {t : TrkV} (h : Trk w v t) (L : List (Obj ⊕ Ext)) : Trk (lay w L) v t := by
  obtain ⟨vg, vd, h1, h0, h2, h3, h4⟩ := h
  exact ⟨vg, vd, h1, h0, h2.lay L, h3.lay L, h4⟩
end
end Go.Proofs.YtnnmfdeeicpdlaaGreat
/- Names: package decimal's and the reference's. -/
namespace Go.Proofs.YtnnmfdeeicpdlaaGreat
open Go.RowKit

def letB (c : Int) : Bool := decide ((97 ≤ c ∧ c ≤ 122) ∨ (65 ≤ c ∧ c ≤ 90))
def digB (c : Int) : Bool := decide (48 ≤ c ∧ c ≤ 57)
def wrdB (c : Int) : Bool := letB c || digB c || c == 95
def bt (s : ByteArray) (i : Nat) : Int := ((s.data.toList.getD i 0).toNat : Int)
def AllW (s : ByteArray) (k : Nat) : Prop := ∀ i, i < k → wrdB (bt s i) = true
structure Name (s : ByteArray) : Prop where
  len : s.size ≤ 20
  pos : 0 < s.size
  all : AllW s s.size
  hd : letB (bt s 0) = true
noncomputable def nameB (s : ByteArray) : Bool := @decide (Name s) (Classical.propDecidable _)
end Go.Proofs.YtnnmfdeeicpdlaaGreat
