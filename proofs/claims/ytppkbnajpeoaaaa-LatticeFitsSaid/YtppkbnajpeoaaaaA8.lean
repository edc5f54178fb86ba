/- Points compared; the statements' own 'awake': it answers true. -/
import Derived.Test.YtppkbnajpeoaaaaA7
namespace Go.Proofs.Ytppkbnajpeoaaaa
open Go.RowKit

set_option maxRecDepth 100000 in
theorem eqIn_arr3 (d t : Nat) (ht : Try.prog.underlying t = some (.array 3 3)) (a b c x y z : Int) (w : World) :
    (Op.equalIn (d + 1 + 1) t (.agg #[.int .i64 a, .int .i64 b, .int .i64 c]) (.agg #[.int .i64 x, .int .i64 y, .int .i64 z])).run Try.prog w = .ok (a == x && (b == y && c == z)) w := by
  have h3 : Try.prog.underlying 3 = some (.int .i64) := Try.underlying3
  have hs : (sizeOf 3).run Try.prog w = .ok 1 w := by kernel_rfl
  have p : ∀ (i : Nat) (u v s : Value), i < 3 → (part 3 #[u, v, s] i).run Try.prog w = .ok (#[u, v, s].getD i undef) w := by
    intro i u v s hi
    rcases (show i = 0 ∨ i = 1 ∨ i = 2 by omega) with rfl | rfl | rfl <;> kernel_rfl
  have i : ∀ (m n : Int), (Op.equalIn (d + 1) 3 (.int .i64 m) (.int .i64 n)).run Try.prog w = .ok (m == n) w := fun m n => run_equalIn_int w d 3 .i64 .i64 m n h3
  rw [Op.equalIn]
  simp only [Sem.run_bind, run_underlying ht, Result.andThen_ok, hs]
  cases ha : a == x <;> cases hb : b == y <;> cases hc : c == z <;>
  simp [Std.Legacy.Range.forIn_eq_forIn_range', Std.Legacy.Range.size, List.range', p, i, Sem.run_bind, Result.andThen_ok, ha, hb, hc]

def eqB (a b c x y z : Int) : Bool := a == x && (b == y && c == z)
theorem eq23 (a b c x y z : Int) (w : World) : (Op.equalIn 10000 23 (.agg #[.int .i64 a, .int .i64 b, .int .i64 c]) (.agg #[.int .i64 x, .int .i64 y, .int .i64 z])).run Try.prog w = .ok (eqB a b c x y z) w :=
  eqIn_arr3 9998 23 Try.underlying23 a b c x y z w
theorem eq22 (a b c x y z : Int) (w : World) : (Op.equalIn 10000 22 (.agg #[.int .i64 a, .int .i64 b, .int .i64 c]) (.agg #[.int .i64 x, .int .i64 y, .int .i64 z])).run Try.prog w = .ok (eqB a b c x y z) w :=
  eqIn_arr3 9998 22 Try.underlying22 a b c x y z w

theorem snap_a (w : World) : Calls Try.prog 12 #[.agg #[.int .i64 10, .int .i64 5, .int .i64 5, .int .i64 5], .agg #[.int .i64 24, .int .i64 25, .int .i64 26]] w fun e w' => e = .returned (.tuple #[.agg #[.int .i64 2, .int .i64 2, .int .i64 2], .int .i64 0]) ∧ Below w.heap.size w w' :=
  snap_yes 10 5 5 5 24 25 26 w (by decide) (by decide)
theorem snap_b (w : World) : Calls Try.prog 12 #[.agg #[.int .i64 10, .int .i64 5, .int .i64 5, .int .i64 5], .agg #[.int .i64 20, .int .i64 19, .int .i64 5]] w fun e w' => e = .returned (.tuple #[.agg #[.int .i64 2, .int .i64 1, .int .i64 0], .int .i64 0]) ∧ Below w.heap.size w w' :=
  snap_yes 10 5 5 5 20 19 5 w (by decide) (by decide)
theorem right_a (w : World) : Calls Try.prog 14 #[.agg #[.int .i64 10, .int .i64 5, .int .i64 5, .int .i64 5]] w fun e w' => e = .returned (.bool true) ∧ Below w.heap.size w w' :=
  right_any 10 5 5 5 w

set_option maxHeartbeats 400000 in
theorem awake_any (w : World) : Calls Try.prog 11 #[] w fun e w' => e = .returned (.bool true) ∧ Below w.heap.size w w' := by
  have e1 : ∀ w, (Op.equalIn 10000 23 (.agg #[.int .i64 2, .int .i64 2, .int .i64 2]) (.agg #[.int .i64 2, .int .i64 2, .int .i64 2])).run Try.prog w = .ok true w := fun w => eq23 2 2 2 2 2 2 w
  have e2 : ∀ w, (Op.equalIn 10000 23 (.agg #[.int .i64 2, .int .i64 1, .int .i64 0]) (.agg #[.int .i64 2, .int .i64 1, .int .i64 0])).run Try.prog w = .ok true w := fun w => eq23 2 1 0 2 1 0 w
  go_enter Try.func11, Try.ntmps11
  go_wp2_with fail
  refine (snap_a _).mono ?_
  rintro e w1 ⟨rfl, hb1⟩
  obtain ⟨hc1, hz1⟩ := bcell hb1
  have s1 : w.heap.size < w1.heap.size := by have := hb1.size; simp at this; omega
  go_wp2_with fail
  refine (snap_b _).mono ?_
  rintro e w2 ⟨rfl, hb2⟩
  obtain ⟨hc2, hz2⟩ := bcell hb2
  have s2 : w1.heap.size < w2.heap.size := by have := hb2.size; simp at this; omega
  have s3 : w.heap.size < w2.heap.size := by omega
  go_wp2_with fail
  refine (right_a _).mono ?_
  rintro e w3 ⟨rfl, hb3⟩
  go_wp2
  go_ret
  exact ⟨rfl, by (repeat (first | with_reducible exact Below.refl _ _ | with_reducible assumption | with_reducible refine below_drewN ?_ _ | with_reducible refine Below.alloc ?_ (by first | exact Nat.le_refl _ | (simp; done) | (simp; omega) | omega) _ | with_reducible refine Below.setCell ?_ (by first | exact Nat.le_refl _ | (simp; done) | (simp; omega) | omega) _ | with_reducible refine Below.trans ?_ (Below.mono (by with_reducible assumption) (by first | exact Nat.le_refl _ | (simp; done) | (simp; omega) | omega))))⟩
end Go.Proofs.Ytppkbnajpeoaaaa
