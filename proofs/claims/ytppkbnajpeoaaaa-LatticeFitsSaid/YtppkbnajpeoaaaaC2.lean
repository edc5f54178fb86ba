/- LatticeNear: the law's walk. -/
import Derived.Test.YtppkbnajpeoaaaaC1
namespace Go.Proofs.Ytppkbnajpeoaaaa
open Go.RowKit

set_option maxHeartbeats 2000000 in
theorem nearL_bad (s a b c x y z : Int) (w : World) (h : rightB s a b c = false) :
    Calls Try.prog 8 #[.agg #[.int .i64 s, .int .i64 a, .int .i64 b, .int .i64 c], .agg #[.int .i64 x, .int .i64 y, .int .i64 z]] w fun e w' => e = .returned (.bool true) ∧ Below w.heap.size w w' := by
  have S : Hid (∀ W, Calls Try.prog 12 #[.agg #[.int .i64 s, .int .i64 a, .int .i64 b, .int .i64 c], .agg #[.int .i64 x, .int .i64 y, .int .i64 z]] W fun e w' => e = .returned (.tuple #[.agg #[.int .i64 0, .int .i64 0, .int .i64 0], .int .i64 1]) ∧ Below W.heap.size W w') := fun W => snap_bad s a b c x y z W h
  have q0 : ∀ w, (Op.equalIn 10000 23 (.agg #[.int .i64 0, .int .i64 0, .int .i64 0]) (.agg #[.int .i64 0, .int .i64 0, .int .i64 0])).run Try.prog w = .ok true w := fun w => eq23 0 0 0 0 0 0 w
  clear h
  go_enter Try.func8, Try.ntmps8
  go_wp2_with fail
  refine (awake_any _).mono ?_
  rintro e w1 ⟨rfl, hb1⟩
  obtain ⟨hc1, hz1⟩ := bcell hb1
  have s1 : w.heap.size + 1 < w1.heap.size := by have := hb1.size; simp at this; omega
  have s1' : w.heap.size < w1.heap.size := by omega
  go_wp2_with fail
  refine (S.out _).mono ?_
  rintro e w2 ⟨rfl, hb2⟩
  obtain ⟨hc2, hz2⟩ := bcell hb2
  have z2_0 : w.heap.size < w2.heap.size := by have := hb2.size; (first | omega | (simp at this; omega))
  have z2_1 : w.heap.size + 1 < w2.heap.size := by have := hb2.size; (first | omega | (simp at this; omega))
  go_wp2
  go_ret
  exact ⟨rfl, by (repeat (first | with_reducible exact Below.refl _ _ | with_reducible assumption | with_reducible refine below_drewN ?_ _ | with_reducible refine Below.drew ?_ | with_reducible refine Below.alloc ?_ (by first | exact Nat.le_refl _ | (simp; done) | (simp; omega) | omega) _ | with_reducible refine Below.setCell ?_ (by first | exact Nat.le_refl _ | (simp; done) | (simp; omega) | omega) _ | with_reducible refine Below.trans ?_ (Below.mono (by with_reducible assumption) (by first | exact Nat.le_refl _ | (simp; done) | (simp; omega) | omega))))⟩

set_option maxHeartbeats 2000000 in
theorem nearL_out (s a b c x y z : Int) (w : World) (h : rightB s a b c = true) (ho : snapOk s a b c x y z = false) :
    Calls Try.prog 8 #[.agg #[.int .i64 s, .int .i64 a, .int .i64 b, .int .i64 c], .agg #[.int .i64 x, .int .i64 y, .int .i64 z]] w fun e w' => e = .returned (.bool true) ∧ Below w.heap.size w w' := by
  have S : Hid (∀ W, Calls Try.prog 12 #[.agg #[.int .i64 s, .int .i64 a, .int .i64 b, .int .i64 c], .agg #[.int .i64 x, .int .i64 y, .int .i64 z]] W fun e w' => e = .returned (.tuple #[.agg #[.int .i64 0, .int .i64 0, .int .i64 0], .int .i64 2]) ∧ Below W.heap.size W w') := fun W => snap_out s a b c x y z W h ho
  have q0 : ∀ w, (Op.equalIn 10000 23 (.agg #[.int .i64 0, .int .i64 0, .int .i64 0]) (.agg #[.int .i64 0, .int .i64 0, .int .i64 0])).run Try.prog w = .ok true w := fun w => eq23 0 0 0 0 0 0 w
  clear h ho
  go_enter Try.func8, Try.ntmps8
  go_wp2_with fail
  refine (awake_any _).mono ?_
  rintro e w1 ⟨rfl, hb1⟩
  obtain ⟨hc1, hz1⟩ := bcell hb1
  have s1 : w.heap.size + 1 < w1.heap.size := by have := hb1.size; simp at this; omega
  have s1' : w.heap.size < w1.heap.size := by omega
  go_wp2_with fail
  refine (S.out _).mono ?_
  rintro e w2 ⟨rfl, hb2⟩
  obtain ⟨hc2, hz2⟩ := bcell hb2
  have z2_0 : w.heap.size < w2.heap.size := by have := hb2.size; (first | omega | (simp at this; omega))
  have z2_1 : w.heap.size + 1 < w2.heap.size := by have := hb2.size; (first | omega | (simp at this; omega))
  go_wp2
  go_ret
  exact ⟨rfl, by (repeat (first | with_reducible exact Below.refl _ _ | with_reducible assumption | with_reducible refine below_drewN ?_ _ | with_reducible refine Below.drew ?_ | with_reducible refine Below.alloc ?_ (by first | exact Nat.le_refl _ | (simp; done) | (simp; omega) | omega) _ | with_reducible refine Below.setCell ?_ (by first | exact Nat.le_refl _ | (simp; done) | (simp; omega) | omega) _ | with_reducible refine Below.trans ?_ (Below.mono (by with_reducible assumption) (by first | exact Nat.le_refl _ | (simp; done) | (simp; omega) | omega))))⟩

theorem near_of (s a x : Int) (h1 : 1 ≤ s) (h2 : s ≤ 1048576) (ho : coOk s a x = true) :
    ∃ u t : Int, u = snapX s (x - a) ∧ t = s * u ∧ (-1048576 ≤ u ∧ u ≤ 1048576) ∧ (-1099511627776 ≤ t ∧ t ≤ 1099511627776) ∧ (-4611686018427387904 ≤ x ∧ x ≤ 4611686018427387904) ∧ -s ≤ 2 * (x - (a + t)) ∧ 2 * (x - (a + t)) < s := by
  have n := snapX_near s (x - a) h1
  simp [coOk, inB] at ho
  refine ⟨_, _, rfl, rfl, by omega, mul_bd s _ h1 h2 (by omega) (by omega), by omega, ?_, ?_⟩
  · omega
  · omega

set_option maxHeartbeats 2000000 in
theorem nearL_yes (s a b c x y z : Int) (w : World) (h : rightB s a b c = true) (ho : snapOk s a b c x y z = true) :
    Calls Try.prog 8 #[.agg #[.int .i64 s, .int .i64 a, .int .i64 b, .int .i64 c], .agg #[.int .i64 x, .int .i64 y, .int .i64 z]] w fun e w' => e = .returned (.bool true) ∧ Below w.heap.size w w' := by
  have R := RightOf.of h
  have hk := ho
  simp only [snapOk, Bool.and_eq_true] at hk
  obtain ⟨⟨k1, k2⟩, k3⟩ := hk
  obtain ⟨u1, t1, hu1, ht1, o1, p1, x1, y1, z1⟩ := near_of s a x R.s1 R.s2 k1
  obtain ⟨u2, t2, hu2, ht2, o2, p2, x2, y2, z2⟩ := near_of s b y R.s1 R.s2 k2
  obtain ⟨u3, t3, hu3, ht3, o3, p3, x3, y3, z3⟩ := near_of s c z R.s1 R.s2 k3
  have ou : onPt u1 u2 u3 = true := by simp [onPt, inB]; omega
  have S : Hid (∀ W, Calls Try.prog 12 #[.agg #[.int .i64 s, .int .i64 a, .int .i64 b, .int .i64 c], .agg #[.int .i64 x, .int .i64 y, .int .i64 z]] W fun e w' => e = .returned (.tuple #[.agg #[.int .i64 u1, .int .i64 u2, .int .i64 u3], .int .i64 0]) ∧ Below W.heap.size W w') := fun W => by rw [hu1, hu2, hu3]; exact snap_yes s a b c x y z W h ho
  have B : Hid (∀ W, Calls Try.prog 19 #[.agg #[.int .i64 s, .int .i64 a, .int .i64 b, .int .i64 c], .agg #[.int .i64 u1, .int .i64 u2, .int .i64 u3]] W fun e w' => e = .returned (.tuple #[.agg #[.int .i64 (a + t1), .int .i64 (b + t2), .int .i64 (c + t3)], .int .i64 0]) ∧ Below W.heap.size W w') := fun W => by
    have := real_yes s a b c u1 u2 u3 W h ou
    rw [real_of s a u1 R.s1 R.s2 R.a1 R.a2 o1.1 o1.2, real_of s b u2 R.s1 R.s2 R.b1 R.b2 o2.1 o2.2, real_of s c u3 R.s1 R.s2 R.c1 R.c2 o3.1 o3.2, ← ht1, ← ht2, ← ht3] at this
    exact this
  have ⟨r1, r2, r3, r4, r5, r6, r7, r8⟩ := R
  clear hu1 hu2 hu3 ht1 ht2 ht3 h ho k1 k2 k3 ou R
  have m1 : IntKind.i64.wrap (x - (a + t1)) = x - (a + t1) := IntWalk.i64_in _ (by omega)
  have m2 : IntKind.i64.wrap (y - (b + t2)) = y - (b + t2) := IntWalk.i64_in _ (by omega)
  have m3 : IntKind.i64.wrap (z - (c + t3)) = z - (c + t3) := IntWalk.i64_in _ (by omega)
  go_enter Try.func8, Try.ntmps8
  go_wp2_with fail
  refine (awake_any _).mono ?_
  rintro e w1 ⟨rfl, hb1⟩
  obtain ⟨hc1, hz1⟩ := bcell hb1
  have s1 : w.heap.size + 1 < w1.heap.size := by have := hb1.size; simp at this; omega
  have s1' : w.heap.size < w1.heap.size := by omega
  go_wp2_with fail
  refine (S.out _).mono ?_
  rintro e w2 ⟨rfl, hb2⟩
  obtain ⟨hc2, hz2⟩ := bcell hb2
  have z2_0 : w.heap.size < w2.heap.size := by have := hb2.size; (first | omega | (simp at this; omega))
  have z2_1 : w.heap.size + 1 < w2.heap.size := by have := hb2.size; (first | omega | (simp at this; omega))
  go_wp2_with fail
  refine (B.out _).mono ?_
  rintro e w3 ⟨rfl, hb3⟩
  obtain ⟨hc3, hz3⟩ := bcell hb3
  have z3_0 : w.heap.size < w3.heap.size := by have := hb3.size; (first | omega | (simp at this; omega))
  have z3_1 : w.heap.size + 1 < w3.heap.size := by have := hb3.size; (first | omega | (simp at this; omega))
  have z3_2 : w2.heap.size < w3.heap.size := by have := hb3.size; (first | omega | (simp at this; omega))
  go_wp2
  refine wp_loop_rounds 4 ?_
  rw [rounds_succ]
  go_wp2
  go_quiet (fail)
  go_wp2
  rw [rounds_succ]
  go_wp2
  go_quiet (fail)
  go_wp2
  rw [rounds_succ]
  go_wp2
  go_quiet (fail)
  go_wp2
  rw [rounds_succ]
  go_wp2
  go_ret
  exact ⟨rfl, by (repeat (first | with_reducible exact Below.refl _ _ | with_reducible assumption | with_reducible refine below_drewN ?_ _ | with_reducible refine Below.drew ?_ | with_reducible refine Below.alloc ?_ (by first | exact Nat.le_refl _ | (simp; done) | (simp; omega) | omega) _ | with_reducible refine Below.setCell ?_ (by first | exact Nat.le_refl _ | (simp; done) | (simp; omega) | omega) _ | with_reducible refine Below.trans ?_ (Below.mono (by with_reducible assumption) (by first | exact Nat.le_refl _ | (simp; done) | (simp; omega) | omega))))⟩

theorem nearL_any (s a b c x y z : Int) (w : World) :
    Calls Try.prog 8 #[.agg #[.int .i64 s, .int .i64 a, .int .i64 b, .int .i64 c], .agg #[.int .i64 x, .int .i64 y, .int .i64 z]] w fun e w' => e = .returned (.bool true) ∧ Below w.heap.size w w' := by
  by_cases h : rightB s a b c = true
  · by_cases ho : snapOk s a b c x y z = true
    · exact nearL_yes s a b c x y z w h ho
    · exact nearL_out s a b c x y z w h (by simpa using ho)
  · exact nearL_bad s a b c x y z w (by simpa using h)
end Go.Proofs.Ytppkbnajpeoaaaa
