/- Part of the proof of DamageMends. -/
import Derived.Test.YtnbhgeehlcjmdaaGreatV3
namespace Go.Ev.F
open Go Go.Ev
set_option maxRecDepth 1000000
theorem r100 : isOK (entK masks 357 (tbl 100) 1000 e100) = true := by decide +kernel
theorem r101 : isOK (entK masks 357 (tbl 101) 1000 e101) = true := by decide +kernel
theorem r102 : isOK (entK masks 357 (tbl 102) 1000 e102) = true := by decide +kernel
theorem r103 : isOK (entK masks 357 (tbl 103) 1000 e103) = true := by decide +kernel
theorem r104 : isOK (entK masks 357 (tbl 104) 1000 e104) = true := by decide +kernel
theorem r105 : isOK (entK masks 357 (tbl 105) 1000 e105) = true := by decide +kernel
theorem r106 : isOK (entK masks 357 (tbl 106) 1000 e106) = true := by decide +kernel
theorem r107 : isOK (entK masks 357 (tbl 107) 1000 e107) = true := by decide +kernel
theorem r108 : isOK (entK masks 357 (tbl 108) 1000 e108) = true := by decide +kernel
theorem r109 : isOK (entK masks 357 (tbl 109) 1000 e109) = true := by decide +kernel
theorem r110 : isOK (entK masks 357 (tbl 110) 1000 e110) = true := by decide +kernel
theorem r111 : isOK (entK masks 357 (tbl 111) 1000 e111) = true := by decide +kernel
theorem r112 : isOK (entK masks 357 (tbl 112) 1000 e112) = true := by decide +kernel
theorem r113 : isOK (entK masks 357 (tbl 113) 1000 e113) = true := by decide +kernel
theorem r114 : isOK (entK masks 357 (tbl 114) 1000 e114) = true := by decide +kernel
theorem r115 : isOK (entK masks 357 (tbl 115) 1000 e115) = true := by decide +kernel
theorem r116 : isOK (entK masks 357 (tbl 116) 1000 e116) = true := by decide +kernel
theorem r117 : isOK (entK masks 357 (tbl 117) 1000 e117) = true := by decide +kernel
theorem r118 : isOK (entK masks 357 (tbl 118) 1000 e118) = true := by decide +kernel
theorem r119 : isOK (entK masks 357 (tbl 119) 1000 e119) = true := by decide +kernel
theorem r120 : isOK (entK masks 357 (tbl 120) 1000 e120) = true := by decide +kernel
theorem r121 : isOK (entK masks 357 (tbl 121) 1000 e121) = true := by decide +kernel
theorem r122 : isOK (entK masks 357 (tbl 122) 1000 e122) = true := by decide +kernel
theorem r123 : isOK (entK masks 357 (tbl 123) 1000 e123) = true := by decide +kernel
theorem r124 : isOK (entK masks 357 (tbl 124) 1000 e124) = true := by decide +kernel
theorem r125 : isOK (entK masks 357 (tbl 125) 1000 e125) = true := by decide +kernel
theorem r126 : isOK (entK masks 357 (tbl 126) 1000 e126) = true := by decide +kernel
theorem r127 : isOK (entK masks 357 (tbl 127) 1000 e127) = true := by decide +kernel
end Go.Ev.F
