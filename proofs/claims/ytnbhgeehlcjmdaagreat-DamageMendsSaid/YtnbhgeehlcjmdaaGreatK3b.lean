/- Part of the proof of DamageMends. -/
import Derived.Test.YtnbhgeehlcjmdaaGreatV3
namespace Go.Ev.F
open Go Go.Ev
set_option maxRecDepth 1000000
theorem r60 : isOK (entK masks 357 (tbl 60) 1000 e60) = true := by decide +kernel
theorem r61 : isOK (entK masks 357 (tbl 61) 1000 e61) = true := by decide +kernel
theorem r62 : isOK (entK masks 357 (tbl 62) 1000 e62) = true := by decide +kernel
theorem r63 : isOK (entK masks 357 (tbl 63) 1000 e63) = true := by decide +kernel
theorem r64 : isOK (entK masks 357 (tbl 64) 1000 e64) = true := by decide +kernel
theorem r65 : isOK (entK masks 357 (tbl 65) 1000 e65) = true := by decide +kernel
theorem r66 : isOK (entK masks 357 (tbl 66) 1000 e66) = true := by decide +kernel
theorem r67 : isOK (entK masks 357 (tbl 67) 1000 e67) = true := by decide +kernel
theorem r68 : isOK (entK masks 357 (tbl 68) 1000 e68) = true := by decide +kernel
theorem r69 : isOK (entK masks 357 (tbl 69) 1000 e69) = true := by decide +kernel
theorem r70 : isOK (entK masks 357 (tbl 70) 1000 e70) = true := by decide +kernel
theorem r71 : isOK (entK masks 357 (tbl 71) 1000 e71) = true := by decide +kernel
theorem r72 : isOK (entK masks 357 (tbl 72) 1000 e72) = true := by decide +kernel
theorem r73 : isOK (entK masks 357 (tbl 73) 1000 e73) = true := by decide +kernel
theorem r74 : isOK (entK masks 357 (tbl 74) 1000 e74) = true := by decide +kernel
theorem r75 : isOK (entK masks 357 (tbl 75) 1000 e75) = true := by decide +kernel
theorem r76 : isOK (entK masks 357 (tbl 76) 1000 e76) = true := by decide +kernel
theorem r77 : isOK (entK masks 357 (tbl 77) 1000 e77) = true := by decide +kernel
theorem r78 : isOK (entK masks 357 (tbl 78) 1000 e78) = true := by decide +kernel
theorem r79 : isOK (entK masks 357 (tbl 79) 1000 e79) = true := by decide +kernel
theorem r80 : isOK (entK masks 357 (tbl 80) 1000 e80) = true := by decide +kernel
theorem r81 : isOK (entK masks 357 (tbl 81) 1000 e81) = true := by decide +kernel
theorem r82 : isOK (entK masks 357 (tbl 82) 1000 e82) = true := by decide +kernel
theorem r83 : isOK (entK masks 357 (tbl 83) 1000 e83) = true := by decide +kernel
theorem r84 : isOK (entK masks 357 (tbl 84) 1000 e84) = true := by decide +kernel
theorem r85 : isOK (entK masks 357 (tbl 85) 1000 e85) = true := by decide +kernel
theorem r86 : isOK (entK masks 357 (tbl 86) 1000 e86) = true := by decide +kernel
theorem r87 : isOK (entK masks 357 (tbl 87) 1000 e87) = true := by decide +kernel
theorem r88 : isOK (entK masks 357 (tbl 88) 1000 e88) = true := by decide +kernel
theorem r89 : isOK (entK masks 357 (tbl 89) 1000 e89) = true := by decide +kernel
theorem r90 : isOK (entK masks 357 (tbl 90) 1000 e90) = true := by decide +kernel
theorem r91 : isOK (entK masks 357 (tbl 91) 1000 e91) = true := by decide +kernel
theorem r92 : isOK (entK masks 357 (tbl 92) 1000 e92) = true := by decide +kernel
theorem r93 : isOK (entK masks 357 (tbl 93) 1000 e93) = true := by decide +kernel
theorem r94 : isOK (entK masks 357 (tbl 94) 1000 e94) = true := by decide +kernel
theorem r95 : isOK (entK masks 357 (tbl 95) 1000 e95) = true := by decide +kernel
theorem r96 : isOK (entK masks 357 (tbl 96) 1000 e96) = true := by decide +kernel
theorem r97 : isOK (entK masks 357 (tbl 97) 1000 e97) = true := by decide +kernel
theorem r98 : isOK (entK masks 357 (tbl 98) 1000 e98) = true := by decide +kernel
theorem r99 : isOK (entK masks 357 (tbl 99) 1000 e99) = true := by decide +kernel
end Go.Ev.F
