/- Part of the proof of DamageMends. -/
import Derived.Test.YtnbhgeehlcjmdaaGreatV3
namespace Go.Ev.F
open Go Go.Ev
set_option maxRecDepth 1000000
theorem r0 : isOK (entK masks 357 (tbl 0) 1000 e0) = true := by decide +kernel
theorem r1 : isOK (entK masks 357 (tbl 1) 1000 e1) = true := by decide +kernel
theorem r2 : isOK (entK masks 357 (tbl 2) 1000 e2) = true := by decide +kernel
theorem r3 : isOK (entK masks 357 (tbl 3) 1000 e3) = true := by decide +kernel
theorem r4 : isOK (entK masks 357 (tbl 4) 1000 e4) = true := by decide +kernel
theorem r5 : isOK (entK masks 357 (tbl 5) 1000 e5) = true := by decide +kernel
theorem r6 : isOK (entK masks 357 (tbl 6) 1000 e6) = true := by decide +kernel
theorem r7 : isOK (entK masks 357 (tbl 7) 1000 e7) = true := by decide +kernel
theorem r8 : isOK (entK masks 357 (tbl 8) 1000 e8) = true := by decide +kernel
theorem r9 : isOK (entK masks 357 (tbl 9) 1000 e9) = true := by decide +kernel
theorem r10 : isOK (entK masks 357 (tbl 10) 1000 e10) = true := by decide +kernel
theorem r11 : isOK (entK masks 357 (tbl 11) 1000 e11) = true := by decide +kernel
theorem r12 : isOK (entK masks 357 (tbl 12) 1000 e12) = true := by decide +kernel
theorem r13 : isOK (entK masks 357 (tbl 13) 1000 e13) = true := by decide +kernel
theorem r14 : isOK (entK masks 357 (tbl 14) 1000 e14) = true := by decide +kernel
theorem r15 : isOK (entK masks 357 (tbl 15) 1000 e15) = true := by decide +kernel
theorem r16 : isOK (entK masks 357 (tbl 16) 1000 e16) = true := by decide +kernel
theorem r17 : isOK (entK masks 357 (tbl 17) 1000 e17) = true := by decide +kernel
theorem r18 : isOK (entK masks 357 (tbl 18) 1000 e18) = true := by decide +kernel
theorem r19 : isOK (entK masks 357 (tbl 19) 1000 e19) = true := by decide +kernel
theorem r20 : isOK (entK masks 357 (tbl 20) 1000 e20) = true := by decide +kernel
theorem r21 : isOK (entK masks 357 (tbl 21) 1000 e21) = true := by decide +kernel
theorem r22 : isOK (entK masks 357 (tbl 22) 1000 e22) = true := by decide +kernel
theorem r23 : isOK (entK masks 357 (tbl 23) 1000 e23) = true := by decide +kernel
theorem r24 : isOK (entK masks 357 (tbl 24) 1000 e24) = true := by decide +kernel
theorem r25 : isOK (entK masks 357 (tbl 25) 1000 e25) = true := by decide +kernel
theorem r26 : isOK (entK masks 357 (tbl 26) 1000 e26) = true := by decide +kernel
theorem r27 : isOK (entK masks 357 (tbl 27) 1000 e27) = true := by decide +kernel
theorem r28 : isOK (entK masks 357 (tbl 28) 1000 e28) = true := by decide +kernel
theorem r29 : isOK (entK masks 357 (tbl 29) 1000 e29) = true := by decide +kernel
theorem r30 : isOK (entK masks 357 (tbl 30) 1000 e30) = true := by decide +kernel
theorem r31 : isOK (entK masks 357 (tbl 31) 1000 e31) = true := by decide +kernel
theorem r32 : isOK (entK masks 357 (tbl 32) 1000 e32) = true := by decide +kernel
theorem r33 : isOK (entK masks 357 (tbl 33) 1000 e33) = true := by decide +kernel
theorem r34 : isOK (entK masks 357 (tbl 34) 1000 e34) = true := by decide +kernel
theorem r35 : isOK (entK masks 357 (tbl 35) 1000 e35) = true := by decide +kernel
theorem r36 : isOK (entK masks 357 (tbl 36) 1000 e36) = true := by decide +kernel
theorem r37 : isOK (entK masks 357 (tbl 37) 1000 e37) = true := by decide +kernel
theorem r38 : isOK (entK masks 357 (tbl 38) 1000 e38) = true := by decide +kernel
theorem r39 : isOK (entK masks 357 (tbl 39) 1000 e39) = true := by decide +kernel
theorem r40 : isOK (entK masks 357 (tbl 40) 1000 e40) = true := by decide +kernel
theorem r41 : isOK (entK masks 357 (tbl 41) 1000 e41) = true := by decide +kernel
theorem r42 : isOK (entK masks 357 (tbl 42) 1000 e42) = true := by decide +kernel
theorem r43 : isOK (entK masks 357 (tbl 43) 1000 e43) = true := by decide +kernel
theorem r44 : isOK (entK masks 357 (tbl 44) 1000 e44) = true := by decide +kernel
theorem r45 : isOK (entK masks 357 (tbl 45) 1000 e45) = true := by decide +kernel
theorem r46 : isOK (entK masks 357 (tbl 46) 1000 e46) = true := by decide +kernel
theorem r47 : isOK (entK masks 357 (tbl 47) 1000 e47) = true := by decide +kernel
theorem r48 : isOK (entK masks 357 (tbl 48) 1000 e48) = true := by decide +kernel
theorem r49 : isOK (entK masks 357 (tbl 49) 1000 e49) = true := by decide +kernel
theorem r50 : isOK (entK masks 357 (tbl 50) 1000 e50) = true := by decide +kernel
theorem r51 : isOK (entK masks 357 (tbl 51) 1000 e51) = true := by decide +kernel
theorem r52 : isOK (entK masks 357 (tbl 52) 1000 e52) = true := by decide +kernel
theorem r53 : isOK (entK masks 357 (tbl 53) 1000 e53) = true := by decide +kernel
theorem r54 : isOK (entK masks 357 (tbl 54) 1000 e54) = true := by decide +kernel
theorem r55 : isOK (entK masks 357 (tbl 55) 1000 e55) = true := by decide +kernel
theorem r56 : isOK (entK masks 357 (tbl 56) 1000 e56) = true := by decide +kernel
theorem r57 : isOK (entK masks 357 (tbl 57) 1000 e57) = true := by decide +kernel
theorem r58 : isOK (entK masks 357 (tbl 58) 1000 e58) = true := by decide +kernel
theorem r59 : isOK (entK masks 357 (tbl 59) 1000 e59) = true := by decide +kernel
end Go.Ev.F
