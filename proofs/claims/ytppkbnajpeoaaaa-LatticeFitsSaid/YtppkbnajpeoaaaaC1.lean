/- LatticeReal, LatticeNear: plain facts and the laws' walks. -/
import Derived.Test.YtppkbnajpeoaaaaA9
import Derived.Deep.QuietTactic
import Derived.BigQuiet
namespace Go.Proofs.Ytppkbnajpeoaaaa
open Go.RowKit

theorem snapX_near (s d : Int) (hs : 1 ≤ s) : -s ≤ 2 * (d - s * snapX s d) ∧ 2 * (d - s * snapX s d) < s := by
  unfold snapX
  have h1 := Int.mul_ediv_add_emod (2 * d + s) (2 * s)
  have h2 := Int.emod_nonneg (2 * d + s) (show 2 * s ≠ 0 by omega)
  have h3 := Int.emod_lt_of_pos (2 * d + s) (show 0 < 2 * s by omega)
  have e : 2 * s * ((2 * d + s) / (2 * s)) = 2 * (s * ((2 * d + s) / (2 * s))) := Int.mul_assoc _ _ _
  rw [e] at h1
  omega
theorem snapX_back (s x : Int) (hs : 1 ≤ s) : snapX s (s * x) = x := by
  unfold snapX
  refine ((Int.ediv_emod_unique (show 0 < 2 * s by omega)).2 ⟨?_, show 0 ≤ s by omega, by omega⟩).1
  rw [Int.mul_assoc]
  omega
theorem snapX_mono (s d d' : Int) (hs : 1 ≤ s) (h : d ≤ d') : snapX s d ≤ snapX s d' := by
  unfold snapX
  exact Int.ediv_le_ediv (by omega) (by omega)
theorem snapX_step (s d : Int) (hs : 1 ≤ s) : snapX s (d + s) = snapX s d + 1 := by
  unfold snapX
  have e : 2 * (d + s) + s = 2 * d + s + 1 * (2 * s) := by omega
  rw [e, Int.add_mul_ediv_right _ _ (by omega)]
theorem mul_bd (s x : Int) (h1 : 1 ≤ s) (h2 : s ≤ 1048576) (h3 : -1048576 ≤ x) (h4 : x ≤ 1048576) : -1099511627776 ≤ s * x ∧ s * x ≤ 1099511627776 := by
  have a : s * x ≤ s * 1048576 := Int.mul_le_mul_of_nonneg_left h4 (by omega)
  have b : s * (-1048576) ≤ s * x := Int.mul_le_mul_of_nonneg_left h3 (by omega)
  omega
theorem mul_bd2 (s x : Int) (h1 : 1 ≤ s) (h2 : s ≤ 1048576) (h3 : -1048577 ≤ x) (h4 : x ≤ 1048577) : -1099512676352 ≤ s * x ∧ s * x ≤ 1099512676352 := by
  have a : s * x ≤ s * 1048577 := Int.mul_le_mul_of_nonneg_left h4 (by omega)
  have b : s * (-1048577) ≤ s * x := Int.mul_le_mul_of_nonneg_left h3 (by omega)
  omega

structure RightOf (s a b c : Int) : Prop where
  s1 : 1 ≤ s
  s2 : s ≤ 1048576
  a1 : -1099511627776 ≤ a
  a2 : a ≤ 1099511627776
  b1 : -1099511627776 ≤ b
  b2 : b ≤ 1099511627776
  c1 : -1099511627776 ≤ c
  c2 : c ≤ 1099511627776
theorem RightOf.of {s a b c : Int} (h : rightB s a b c = true) : RightOf s a b c := by
  simp [rightB, inB] at h
  constructor <;> omega
theorem wrap_in (x : Int) (h1 : -4611686018427387904 ≤ x) (h2 : x ≤ 4611686018427387904) : wrap64 x = x := by
  rw [← IntWalk.i64_left, IntWalk.i64_in _ (by omega)]
theorem real_of (s a x : Int) (h1 : 1 ≤ s) (h2 : s ≤ 1048576) (h3 : -1099511627776 ≤ a) (h4 : a ≤ 1099511627776) (h5 : -1048576 ≤ x) (h6 : x ≤ 1048576) : wrap64 (a + wrap64 (s * x)) = a + s * x := by
  have := mul_bd s x h1 h2 h5 h6
  rw [wrap_in (s * x) (by omega) (by omega), wrap_in _ (by omega) (by omega)]
theorem co_back (s a x : Int) (h1 : 1 ≤ s) (h2 : s ≤ 1048576) (h3 : -1099511627776 ≤ a) (h4 : a ≤ 1099511627776) (h5 : -1048576 ≤ x) (h6 : x ≤ 1048576) : snapX s (a + s * x - a) = x ∧ coOk s a (a + s * x) = true := by
  have := mul_bd s x h1 h2 h5 h6
  have e : a + s * x - a = s * x := by omega
  have f := snapX_back s x h1
  unfold coOk
  rw [e, f]
  refine ⟨rfl, ?_⟩
  simp [inB]
  omega

set_option maxHeartbeats 2000000 in
theorem realL_bad (s a b c x y z : Int) (w : World) (h : rightB s a b c = false) :
    Calls Try.prog 7 #[.agg #[.int .i64 s, .int .i64 a, .int .i64 b, .int .i64 c], .agg #[.int .i64 x, .int .i64 y, .int .i64 z]] w fun e w' => e = .returned (.bool true) ∧ Below w.heap.size w w' := by
  have RR : Hid (∀ W, Calls Try.prog 13 #[.int .i64 s, .agg #[.int .i64 a, .int .i64 b, .int .i64 c]] W fun e w' => e = .returned (.bool false) ∧ Below W.heap.size W w') := fun W => by have := refRight_any s a b c W; rw [h] at this; exact this
  have S : Hid (∀ W, Calls Try.prog 19 #[.agg #[.int .i64 s, .int .i64 a, .int .i64 b, .int .i64 c], .agg #[.int .i64 x, .int .i64 y, .int .i64 z]] W fun e w' => e = .returned (.tuple #[.agg #[.int .i64 0, .int .i64 0, .int .i64 0], .int .i64 1]) ∧ Below W.heap.size W w') := fun W => real_bad s a b c x y z W h
  have q0 : ∀ w, (Op.equalIn 10000 22 (.agg #[.int .i64 0, .int .i64 0, .int .i64 0]) (.agg #[.int .i64 0, .int .i64 0, .int .i64 0])).run Try.prog w = .ok true w := fun w => eq22 0 0 0 0 0 0 w
  clear h
  go_enter Try.func7, Try.ntmps7
  go_wp2_with fail
  refine (awake_any _).mono ?_
  rintro e w1 ⟨rfl, hb1⟩
  obtain ⟨hc1, hz1⟩ := bcell hb1
  have s1 : w.heap.size + 1 < w1.heap.size := by have := hb1.size; simp at this; omega
  have s1' : w.heap.size < w1.heap.size := by omega
  go_wp2_with fail
  refine (S.out _).mono ?_
  rintro e w2 ⟨rfl, hb2⟩
  obtain ⟨hc2, hz2⟩ := bcell hb2
  have z2_0 : w.heap.size < w2.heap.size := by have := hb2.size; (first | omega | (simp at this; omega))
  have z2_1 : w.heap.size + 1 < w2.heap.size := by have := hb2.size; (first | omega | (simp at this; omega))
  go_wp2_with fail
  refine (RR.out _).mono ?_
  rintro e w3 ⟨rfl, hb3⟩
  obtain ⟨hc3, hz3⟩ := bcell hb3
  have z3_0 : w.heap.size < w3.heap.size := by have := hb3.size; (first | omega | (simp at this; omega))
  have z3_1 : w.heap.size + 1 < w3.heap.size := by have := hb3.size; (first | omega | (simp at this; omega))
  have z3_2 : w2.heap.size < w3.heap.size := by have := hb3.size; (first | omega | (simp at this; omega))
  go_wp2
  go_ret
  exact ⟨rfl, by (repeat (first | with_reducible exact Below.refl _ _ | with_reducible assumption | with_reducible refine below_drewN ?_ _ | with_reducible refine Below.drew ?_ | with_reducible refine Below.alloc ?_ (by first | exact Nat.le_refl _ | (simp; done) | (simp; omega) | omega) _ | with_reducible refine Below.setCell ?_ (by first | exact Nat.le_refl _ | (simp; done) | (simp; omega) | omega) _ | with_reducible refine Below.trans ?_ (Below.mono (by with_reducible assumption) (by first | exact Nat.le_refl _ | (simp; done) | (simp; omega) | omega))))⟩

set_option maxHeartbeats 2000000 in
theorem realL_out (s a b c x y z : Int) (w : World) (h : rightB s a b c = true) (ho : onPt x y z = false) :
    Calls Try.prog 7 #[.agg #[.int .i64 s, .int .i64 a, .int .i64 b, .int .i64 c], .agg #[.int .i64 x, .int .i64 y, .int .i64 z]] w fun e w' => e = .returned (.bool true) ∧ Below w.heap.size w w' := by
  have RR : Hid (∀ W, Calls Try.prog 13 #[.int .i64 s, .agg #[.int .i64 a, .int .i64 b, .int .i64 c]] W fun e w' => e = .returned (.bool true) ∧ Below W.heap.size W w') := fun W => by have := refRight_any s a b c W; rw [h] at this; exact this
  have RO : Hid (∀ W, Calls Try.prog 16 #[.agg #[.int .i64 x, .int .i64 y, .int .i64 z]] W fun e w' => e = .returned (.bool false) ∧ Below W.heap.size W w') := fun W => by have := refOn_any x y z W; rw [ho] at this; exact this
  have S : Hid (∀ W, Calls Try.prog 19 #[.agg #[.int .i64 s, .int .i64 a, .int .i64 b, .int .i64 c], .agg #[.int .i64 x, .int .i64 y, .int .i64 z]] W fun e w' => e = .returned (.tuple #[.agg #[.int .i64 0, .int .i64 0, .int .i64 0], .int .i64 2]) ∧ Below W.heap.size W w') := fun W => real_out s a b c x y z W h ho
  have q0 : ∀ w, (Op.equalIn 10000 22 (.agg #[.int .i64 0, .int .i64 0, .int .i64 0]) (.agg #[.int .i64 0, .int .i64 0, .int .i64 0])).run Try.prog w = .ok true w := fun w => eq22 0 0 0 0 0 0 w
  clear h ho
  go_enter Try.func7, Try.ntmps7
  go_wp2_with fail
  refine (awake_any _).mono ?_
  rintro e w1 ⟨rfl, hb1⟩
  obtain ⟨hc1, hz1⟩ := bcell hb1
  have s1 : w.heap.size + 1 < w1.heap.size := by have := hb1.size; simp at this; omega
  have s1' : w.heap.size < w1.heap.size := by omega
  go_wp2_with fail
  refine (S.out _).mono ?_
  rintro e w2 ⟨rfl, hb2⟩
  obtain ⟨hc2, hz2⟩ := bcell hb2
  have z2_0 : w.heap.size < w2.heap.size := by have := hb2.size; (first | omega | (simp at this; omega))
  have z2_1 : w.heap.size + 1 < w2.heap.size := by have := hb2.size; (first | omega | (simp at this; omega))
  go_wp2_with fail
  refine (RR.out _).mono ?_
  rintro e w3 ⟨rfl, hb3⟩
  obtain ⟨hc3, hz3⟩ := bcell hb3
  have z3_0 : w.heap.size < w3.heap.size := by have := hb3.size; (first | omega | (simp at this; omega))
  have z3_1 : w.heap.size + 1 < w3.heap.size := by have := hb3.size; (first | omega | (simp at this; omega))
  have z3_2 : w2.heap.size < w3.heap.size := by have := hb3.size; (first | omega | (simp at this; omega))
  go_wp2_with fail
  refine (RO.out _).mono ?_
  rintro e w4 ⟨rfl, hb4⟩
  obtain ⟨hc4, hz4⟩ := bcell hb4
  have z4_0 : w.heap.size < w4.heap.size := by have := hb4.size; (first | omega | (simp at this; omega))
  have z4_1 : w.heap.size + 1 < w4.heap.size := by have := hb4.size; (first | omega | (simp at this; omega))
  have z4_2 : w2.heap.size < w4.heap.size := by have := hb4.size; (first | omega | (simp at this; omega))
  go_wp2
  go_ret
  exact ⟨rfl, by (repeat (first | with_reducible exact Below.refl _ _ | with_reducible assumption | with_reducible refine below_drewN ?_ _ | with_reducible refine Below.drew ?_ | with_reducible refine Below.alloc ?_ (by first | exact Nat.le_refl _ | (simp; done) | (simp; omega) | omega) _ | with_reducible refine Below.setCell ?_ (by first | exact Nat.le_refl _ | (simp; done) | (simp; omega) | omega) _ | with_reducible refine Below.trans ?_ (Below.mono (by with_reducible assumption) (by first | exact Nat.le_refl _ | (simp; done) | (simp; omega) | omega))))⟩

structure OnOf (a b c : Int) : Prop where
  a1 : -1048576 ≤ a
  a2 : a ≤ 1048576
  b1 : -1048576 ≤ b
  b2 : b ≤ 1048576
  c1 : -1048576 ≤ c
  c2 : c ≤ 1048576
theorem OnOf.of {a b c : Int} (h : onPt a b c = true) : OnOf a b c := by
  simp [onPt, inB] at h
  constructor <;> omega

set_option maxHeartbeats 2000000 in
theorem realL_yes (s a b c x y z : Int) (w : World) (h : rightB s a b c = true) (ho : onPt x y z = true) :
    Calls Try.prog 7 #[.agg #[.int .i64 s, .int .i64 a, .int .i64 b, .int .i64 c], .agg #[.int .i64 x, .int .i64 y, .int .i64 z]] w fun e w' => e = .returned (.bool true) ∧ Below w.heap.size w w' := by
  have R := RightOf.of h
  have O := OnOf.of ho
  have RR : Hid (∀ W, Calls Try.prog 13 #[.int .i64 s, .agg #[.int .i64 a, .int .i64 b, .int .i64 c]] W fun e w' => e = .returned (.bool true) ∧ Below W.heap.size W w') := fun W => by have := refRight_any s a b c W; rw [h] at this; exact this
  have RO : Hid (∀ W, Calls Try.prog 16 #[.agg #[.int .i64 x, .int .i64 y, .int .i64 z]] W fun e w' => e = .returned (.bool true) ∧ Below W.heap.size W w') := fun W => by have := refOn_any x y z W; rw [ho] at this; exact this
  have S : Hid (∀ W, Calls Try.prog 19 #[.agg #[.int .i64 s, .int .i64 a, .int .i64 b, .int .i64 c], .agg #[.int .i64 x, .int .i64 y, .int .i64 z]] W fun e w' => e = .returned (.tuple #[.agg #[.int .i64 (a + s * x), .int .i64 (b + s * y), .int .i64 (c + s * z)], .int .i64 0]) ∧ Below W.heap.size W w') := fun W => by
    have := real_yes s a b c x y z W h ho
    rw [real_of s a x R.s1 R.s2 R.a1 R.a2 O.a1 O.a2, real_of s b y R.s1 R.s2 R.b1 R.b2 O.b1 O.b2, real_of s c z R.s1 R.s2 R.c1 R.c2 O.c1 O.c2] at this
    exact this
  have B : Hid (∀ W, Calls Try.prog 12 #[.agg #[.int .i64 s, .int .i64 a, .int .i64 b, .int .i64 c], .agg #[.int .i64 (a + s * x), .int .i64 (b + s * y), .int .i64 (c + s * z)]] W fun e w' => e = .returned (.tuple #[.agg #[.int .i64 x, .int .i64 y, .int .i64 z], .int .i64 0]) ∧ Below W.heap.size W w') := fun W => by
    have k0 := co_back s a x R.s1 R.s2 R.a1 R.a2 O.a1 O.a2
    have k1 := co_back s b y R.s1 R.s2 R.b1 R.b2 O.b1 O.b2
    have k2 := co_back s c z R.s1 R.s2 R.c1 R.c2 O.c1 O.c2
    have := snap_yes s a b c (a + s * x) (b + s * y) (c + s * z) W h (by simp only [snapOk, k0.2, k1.2, k2.2, Bool.and_self])
    rw [k0.1, k1.1, k2.1] at this
    exact this
  have q0 : ∀ w, (Op.equalIn 10000 23 (.agg #[.int .i64 x, .int .i64 y, .int .i64 z]) (.agg #[.int .i64 x, .int .i64 y, .int .i64 z])).run Try.prog w = .ok true w := fun w => by have := eq23 x y z x y z w; rw [eqB_refl] at this; exact this
  have m0 : IntKind.i64.wrap (s * x) = s * x := IntWalk.i64_in _ (by have := mul_bd s x R.s1 R.s2 O.a1 O.a2; omega)
  have n0 : IntKind.i64.wrap (a + s * x) = a + s * x := IntWalk.i64_in _ (by have := mul_bd s x R.s1 R.s2 O.a1 O.a2; have := R.a1; have := R.a2; omega)
  have m1 : IntKind.i64.wrap (s * y) = s * y := IntWalk.i64_in _ (by have := mul_bd s y R.s1 R.s2 O.b1 O.b2; omega)
  have n1 : IntKind.i64.wrap (b + s * y) = b + s * y := IntWalk.i64_in _ (by have := mul_bd s y R.s1 R.s2 O.b1 O.b2; have := R.b1; have := R.b2; omega)
  have m2 : IntKind.i64.wrap (s * z) = s * z := IntWalk.i64_in _ (by have := mul_bd s z R.s1 R.s2 O.c1 O.c2; omega)
  have n2 : IntKind.i64.wrap (c + s * z) = c + s * z := IntWalk.i64_in _ (by have := mul_bd s z R.s1 R.s2 O.c1 O.c2; have := R.c1; have := R.c2; omega)
  clear h ho
  have HR := Lib.hid R
  have HO := Lib.hid O
  clear R O
  go_enter Try.func7, Try.ntmps7
  go_wp2_with fail
  refine (awake_any _).mono ?_
  rintro e w1 ⟨rfl, hb1⟩
  obtain ⟨hc1, hz1⟩ := bcell hb1
  have s1 : w.heap.size + 1 < w1.heap.size := by have := hb1.size; simp at this; omega
  have s1' : w.heap.size < w1.heap.size := by omega
  go_wp2_with fail
  refine (S.out _).mono ?_
  rintro e w2 ⟨rfl, hb2⟩
  obtain ⟨hc2, hz2⟩ := bcell hb2
  have z2_0 : w.heap.size < w2.heap.size := by have := hb2.size; (first | omega | (simp at this; omega))
  have z2_1 : w.heap.size + 1 < w2.heap.size := by have := hb2.size; (first | omega | (simp at this; omega))
  go_wp2_with fail
  refine (RR.out _).mono ?_
  rintro e w3 ⟨rfl, hb3⟩
  obtain ⟨hc3, hz3⟩ := bcell hb3
  have z3_0 : w.heap.size < w3.heap.size := by have := hb3.size; (first | omega | (simp at this; omega))
  have z3_1 : w.heap.size + 1 < w3.heap.size := by have := hb3.size; (first | omega | (simp at this; omega))
  have z3_2 : w2.heap.size < w3.heap.size := by have := hb3.size; (first | omega | (simp at this; omega))
  go_wp2_with fail
  refine (RO.out _).mono ?_
  rintro e w4 ⟨rfl, hb4⟩
  obtain ⟨hc4, hz4⟩ := bcell hb4
  have z4_0 : w.heap.size < w4.heap.size := by have := hb4.size; (first | omega | (simp at this; omega))
  have z4_1 : w.heap.size + 1 < w4.heap.size := by have := hb4.size; (first | omega | (simp at this; omega))
  have z4_2 : w2.heap.size < w4.heap.size := by have := hb4.size; (first | omega | (simp at this; omega))
  go_wp2
  refine wp_loop_rounds 4 ?_
  rw [rounds_succ]
  go_wp2
  go_quiet (fail)
  go_wp2
  rw [rounds_succ]
  go_wp2
  go_quiet (fail)
  go_wp2
  rw [rounds_succ]
  go_wp2
  go_quiet (fail)
  go_wp2
  rw [rounds_succ]
  go_wp2_with fail
  refine (B.out _).mono ?_
  rintro e w5 ⟨rfl, hb5⟩
  have hb5 : Below w4.heap.size w4 w5 := (drewN_below w4 _).trans hb5
  obtain ⟨hc5, hz5⟩ := bcell hb5
  have z5_0 : w.heap.size < w5.heap.size := by have := hb5.size; (first | omega | (simp at this; omega))
  have z5_1 : w.heap.size + 1 < w5.heap.size := by have := hb5.size; (first | omega | (simp at this; omega))
  have z5_2 : w2.heap.size < w5.heap.size := by have := hb5.size; (first | omega | (simp at this; omega))
  go_wp2
  go_ret
  exact ⟨rfl, by (repeat (first | with_reducible exact Below.refl _ _ | with_reducible assumption | with_reducible refine below_drewN ?_ _ | with_reducible refine Below.drew ?_ | with_reducible refine Below.alloc ?_ (by first | exact Nat.le_refl _ | (simp; done) | (simp; omega) | omega) _ | with_reducible refine Below.setCell ?_ (by first | exact Nat.le_refl _ | (simp; done) | (simp; omega) | omega) _ | with_reducible refine Below.trans ?_ (Below.mono (by with_reducible assumption) (by first | exact Nat.le_refl _ | (simp; done) | (simp; omega) | omega))))⟩

theorem realL_any (s a b c x y z : Int) (w : World) :
    Calls Try.prog 7 #[.agg #[.int .i64 s, .int .i64 a, .int .i64 b, .int .i64 c], .agg #[.int .i64 x, .int .i64 y, .int .i64 z]] w fun e w' => e = .returned (.bool true) ∧ Below w.heap.size w w' := by
  by_cases h : rightB s a b c = true
  · by_cases ho : onPt x y z = true
    · exact realL_yes s a b c x y z w h ho
    · exact realL_out s a b c x y z w h (by simpa using ho)
  · exact realL_bad s a b c x y z w (by simpa using h)
end Go.Proofs.Ytppkbnajpeoaaaa
