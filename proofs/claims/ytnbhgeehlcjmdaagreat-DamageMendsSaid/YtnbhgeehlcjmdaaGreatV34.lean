/- Proved here: every entry of the table is right; awake() comes to true. -/
import Derived.Test.YtnbhgeehlcjmdaaGreatK3a
import Derived.Test.YtnbhgeehlcjmdaaGreatK3b
import Derived.Test.YtnbhgeehlcjmdaaGreatK3c
import Derived.Test.YtnbhgeehlcjmdaaGreatV33
import Derived.Test.YtnbhgeehlcjmdaaGreatI1
namespace Go.Ev.F
open Go Go.Ev
theorem wf_all : (ents.all entWF) = true := by decide +kernel
/-- the entries of a list are right -/
def Good (l : List Ent) : Prop := ∀ e ∈ l, ∀ args h nx q, tryEnt e args h nx = some q → CallSpec e.fi args h nx q.1 (upsH h q.2.1) q.2.2
theorem good_zero : Good (ents.take 0) := fun e he => by simp at he
theorem good_next {k : Nat} {e : Ent} (hg : Good (ents.take k)) (he : ents[k]? = some e) (hok : isOK (entK masks 357 (tbl k) 1000 e) = true) : Good (ents.take (k + 1)) := by
  have hmem : e ∈ ents := List.mem_of_getElem? he
  have hwf : entWF e = true := List.all_eq_true.1 wf_all e hmem
  have hc := (evK_ok (masks := masks) (memo := tbl k) insert_spec (fun fi e' he' args h nx q ht => by
    unfold tbl at he'
    rw [List.mem_filter] at he'
    have e1 := Nat.eq_of_beq_eq_true he'.2
    rw [← e1]
    exact hg e' he'.1 args h nx q ht) 1000).1
  intro e' he'
  rw [List.take_add_one, he] at he'
  rcases List.mem_append.1 he' with h1 | h1
  · exact hg e' h1
  · simp at h1; subst h1
    exact ent_checked hc hwf hok
theorem g0 : Good (ents.take 0) := good_zero
theorem g1 : Good (ents.take 1) := good_next g0 rfl r0
theorem g2 : Good (ents.take 2) := good_next g1 rfl r1
theorem g3 : Good (ents.take 3) := good_next g2 rfl r2
theorem g4 : Good (ents.take 4) := good_next g3 rfl r3
theorem g5 : Good (ents.take 5) := good_next g4 rfl r4
theorem g6 : Good (ents.take 6) := good_next g5 rfl r5
theorem g7 : Good (ents.take 7) := good_next g6 rfl r6
theorem g8 : Good (ents.take 8) := good_next g7 rfl r7
theorem g9 : Good (ents.take 9) := good_next g8 rfl r8
theorem g10 : Good (ents.take 10) := good_next g9 rfl r9
theorem g11 : Good (ents.take 11) := good_next g10 rfl r10
theorem g12 : Good (ents.take 12) := good_next g11 rfl r11
theorem g13 : Good (ents.take 13) := good_next g12 rfl r12
theorem g14 : Good (ents.take 14) := good_next g13 rfl r13
theorem g15 : Good (ents.take 15) := good_next g14 rfl r14
theorem g16 : Good (ents.take 16) := good_next g15 rfl r15
theorem g17 : Good (ents.take 17) := good_next g16 rfl r16
theorem g18 : Good (ents.take 18) := good_next g17 rfl r17
theorem g19 : Good (ents.take 19) := good_next g18 rfl r18
theorem g20 : Good (ents.take 20) := good_next g19 rfl r19
theorem g21 : Good (ents.take 21) := good_next g20 rfl r20
theorem g22 : Good (ents.take 22) := good_next g21 rfl r21
theorem g23 : Good (ents.take 23) := good_next g22 rfl r22
theorem g24 : Good (ents.take 24) := good_next g23 rfl r23
theorem g25 : Good (ents.take 25) := good_next g24 rfl r24
theorem g26 : Good (ents.take 26) := good_next g25 rfl r25
theorem g27 : Good (ents.take 27) := good_next g26 rfl r26
theorem g28 : Good (ents.take 28) := good_next g27 rfl r27
theorem g29 : Good (ents.take 29) := good_next g28 rfl r28
theorem g30 : Good (ents.take 30) := good_next g29 rfl r29
theorem g31 : Good (ents.take 31) := good_next g30 rfl r30
theorem g32 : Good (ents.take 32) := good_next g31 rfl r31
theorem g33 : Good (ents.take 33) := good_next g32 rfl r32
theorem g34 : Good (ents.take 34) := good_next g33 rfl r33
theorem g35 : Good (ents.take 35) := good_next g34 rfl r34
theorem g36 : Good (ents.take 36) := good_next g35 rfl r35
theorem g37 : Good (ents.take 37) := good_next g36 rfl r36
theorem g38 : Good (ents.take 38) := good_next g37 rfl r37
theorem g39 : Good (ents.take 39) := good_next g38 rfl r38
theorem g40 : Good (ents.take 40) := good_next g39 rfl r39
theorem g41 : Good (ents.take 41) := good_next g40 rfl r40
theorem g42 : Good (ents.take 42) := good_next g41 rfl r41
theorem g43 : Good (ents.take 43) := good_next g42 rfl r42
theorem g44 : Good (ents.take 44) := good_next g43 rfl r43
theorem g45 : Good (ents.take 45) := good_next g44 rfl r44
theorem g46 : Good (ents.take 46) := good_next g45 rfl r45
theorem g47 : Good (ents.take 47) := good_next g46 rfl r46
theorem g48 : Good (ents.take 48) := good_next g47 rfl r47
theorem g49 : Good (ents.take 49) := good_next g48 rfl r48
theorem g50 : Good (ents.take 50) := good_next g49 rfl r49
theorem g51 : Good (ents.take 51) := good_next g50 rfl r50
theorem g52 : Good (ents.take 52) := good_next g51 rfl r51
theorem g53 : Good (ents.take 53) := good_next g52 rfl r52
theorem g54 : Good (ents.take 54) := good_next g53 rfl r53
theorem g55 : Good (ents.take 55) := good_next g54 rfl r54
theorem g56 : Good (ents.take 56) := good_next g55 rfl r55
theorem g57 : Good (ents.take 57) := good_next g56 rfl r56
theorem g58 : Good (ents.take 58) := good_next g57 rfl r57
theorem g59 : Good (ents.take 59) := good_next g58 rfl r58
theorem g60 : Good (ents.take 60) := good_next g59 rfl r59
theorem g61 : Good (ents.take 61) := good_next g60 rfl r60
theorem g62 : Good (ents.take 62) := good_next g61 rfl r61
theorem g63 : Good (ents.take 63) := good_next g62 rfl r62
theorem g64 : Good (ents.take 64) := good_next g63 rfl r63
theorem g65 : Good (ents.take 65) := good_next g64 rfl r64
theorem g66 : Good (ents.take 66) := good_next g65 rfl r65
theorem g67 : Good (ents.take 67) := good_next g66 rfl r66
theorem g68 : Good (ents.take 68) := good_next g67 rfl r67
theorem g69 : Good (ents.take 69) := good_next g68 rfl r68
theorem g70 : Good (ents.take 70) := good_next g69 rfl r69
theorem g71 : Good (ents.take 71) := good_next g70 rfl r70
theorem g72 : Good (ents.take 72) := good_next g71 rfl r71
theorem g73 : Good (ents.take 73) := good_next g72 rfl r72
theorem g74 : Good (ents.take 74) := good_next g73 rfl r73
theorem g75 : Good (ents.take 75) := good_next g74 rfl r74
theorem g76 : Good (ents.take 76) := good_next g75 rfl r75
theorem g77 : Good (ents.take 77) := good_next g76 rfl r76
theorem g78 : Good (ents.take 78) := good_next g77 rfl r77
theorem g79 : Good (ents.take 79) := good_next g78 rfl r78
theorem g80 : Good (ents.take 80) := good_next g79 rfl r79
theorem g81 : Good (ents.take 81) := good_next g80 rfl r80
theorem g82 : Good (ents.take 82) := good_next g81 rfl r81
theorem g83 : Good (ents.take 83) := good_next g82 rfl r82
theorem g84 : Good (ents.take 84) := good_next g83 rfl r83
theorem g85 : Good (ents.take 85) := good_next g84 rfl r84
theorem g86 : Good (ents.take 86) := good_next g85 rfl r85
theorem g87 : Good (ents.take 87) := good_next g86 rfl r86
theorem g88 : Good (ents.take 88) := good_next g87 rfl r87
theorem g89 : Good (ents.take 89) := good_next g88 rfl r88
theorem g90 : Good (ents.take 90) := good_next g89 rfl r89
theorem g91 : Good (ents.take 91) := good_next g90 rfl r90
theorem g92 : Good (ents.take 92) := good_next g91 rfl r91
theorem g93 : Good (ents.take 93) := good_next g92 rfl r92
theorem g94 : Good (ents.take 94) := good_next g93 rfl r93
theorem g95 : Good (ents.take 95) := good_next g94 rfl r94
theorem g96 : Good (ents.take 96) := good_next g95 rfl r95
theorem g97 : Good (ents.take 97) := good_next g96 rfl r96
theorem g98 : Good (ents.take 98) := good_next g97 rfl r97
theorem g99 : Good (ents.take 99) := good_next g98 rfl r98
theorem g100 : Good (ents.take 100) := good_next g99 rfl r99
theorem g101 : Good (ents.take 101) := good_next g100 rfl r100
theorem g102 : Good (ents.take 102) := good_next g101 rfl r101
theorem g103 : Good (ents.take 103) := good_next g102 rfl r102
theorem g104 : Good (ents.take 104) := good_next g103 rfl r103
theorem g105 : Good (ents.take 105) := good_next g104 rfl r104
theorem g106 : Good (ents.take 106) := good_next g105 rfl r105
theorem g107 : Good (ents.take 107) := good_next g106 rfl r106
theorem g108 : Good (ents.take 108) := good_next g107 rfl r107
theorem g109 : Good (ents.take 109) := good_next g108 rfl r108
theorem g110 : Good (ents.take 110) := good_next g109 rfl r109
theorem g111 : Good (ents.take 111) := good_next g110 rfl r110
theorem g112 : Good (ents.take 112) := good_next g111 rfl r111
theorem g113 : Good (ents.take 113) := good_next g112 rfl r112
theorem g114 : Good (ents.take 114) := good_next g113 rfl r113
theorem g115 : Good (ents.take 115) := good_next g114 rfl r114
theorem g116 : Good (ents.take 116) := good_next g115 rfl r115
theorem g117 : Good (ents.take 117) := good_next g116 rfl r116
theorem g118 : Good (ents.take 118) := good_next g117 rfl r117
theorem g119 : Good (ents.take 119) := good_next g118 rfl r118
theorem g120 : Good (ents.take 120) := good_next g119 rfl r119
theorem g121 : Good (ents.take 121) := good_next g120 rfl r120
theorem g122 : Good (ents.take 122) := good_next g121 rfl r121
theorem g123 : Good (ents.take 123) := good_next g122 rfl r122
theorem g124 : Good (ents.take 124) := good_next g123 rfl r123
theorem g125 : Good (ents.take 125) := good_next g124 rfl r124
theorem g126 : Good (ents.take 126) := good_next g125 rfl r125
theorem g127 : Good (ents.take 127) := good_next g126 rfl r126
theorem g128 : Good (ents.take 128) := good_next g127 rfl r127
theorem awake_call : CallSpec 4 [] .e 0 (.bool true) .e 0 := g128 e127 (List.mem_of_getElem? (i := 127) rfl) [] .e 0 (.bool true, [], 0) rfl
/-- awake() is true, whatever the world -/
theorem awake_runs (w : World) : CallsIn Fence.wide 0 P 4 #[] w (fun e w' => e = .returned (.bool true) ∧ w.heap.size ≤ w'.heap.size ∧ (∀ k, k < w.heap.size → w'.heap[k]? = w.heap[k]?) ∧ w'.os = w.os ∧ w'.tape = w.tape ∧ w'.output = w.output) := by
  have S : Sim ⟨fun k => w.heap.size ≤ k, 0⟩ w (fun _ => none) .e 0 w :=
    ⟨fun b o p hb => (by rw [hget_e] at hb; cases hb), fun b o hb => (by rw [hget_e] at hb; cases hb), fun b c o o' p q hb => (by rw [hget_e] at hb; cases hb), fun _ _ _ => rfl, fun b o p hb => (by rw [hget_e] at hb; cases hb), fun _ _ => rfl, fun _ h => h, Nat.le_refl _, rfl, rfl, rfl⟩
  refine CallsIn.mono (awake_call.2.2 _ w _ w #[] S (Nat.le_refl _) .nil) ?_
  rintro e w' ⟨x, ι', rfl, _, hv, S'⟩
  cases hv
  exact ⟨rfl, S'.size, fun k hk => S'.old k (by simp only; omega), S'.os, S'.tape, S'.output⟩
end Go.Ev.F
