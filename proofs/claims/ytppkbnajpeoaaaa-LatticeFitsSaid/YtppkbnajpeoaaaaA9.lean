/- LatticeSnaps, the law's walk. -/
import Derived.Test.YtppkbnajpeoaaaaA8
namespace Go.Proofs.Ytppkbnajpeoaaaa
open Go.RowKit

theorem eqB_refl (a b c : Int) : eqB a b c a b c = true := by simp [eqB]

set_option maxHeartbeats 1000000 in
theorem snaps_bad (s a b c x y z : Int) (w : World) (h : rightB s a b c = false) :
    Calls Try.prog 3 #[.agg #[.int .i64 s, .int .i64 a, .int .i64 b, .int .i64 c], .agg #[.int .i64 x, .int .i64 y, .int .i64 z]] w fun e w' => e = .returned (.bool true) ∧ Below w.heap.size w w' := by
  have RR : ∀ W, Calls Try.prog 13 #[.int .i64 s, .agg #[.int .i64 a, .int .i64 b, .int .i64 c]] W fun e w' => e = .returned (.bool false) ∧ Below W.heap.size W w' := fun W => by have := refRight_any s a b c W; rw [h] at this; exact this
  have RR := Lib.hid RR
  have RL : ∀ W, Calls Try.prog 14 #[.agg #[.int .i64 s, .int .i64 a, .int .i64 b, .int .i64 c]] W fun e w' => e = .returned (.bool false) ∧ Below W.heap.size W w' := fun W => by have := right_any s a b c W; rw [h] at this; exact this
  have RL := Lib.hid RL
  have S : Hid (∀ W, Calls Try.prog 12 #[.agg #[.int .i64 s, .int .i64 a, .int .i64 b, .int .i64 c], .agg #[.int .i64 x, .int .i64 y, .int .i64 z]] W fun e w' => e = .returned (.tuple #[.agg #[.int .i64 0, .int .i64 0, .int .i64 0], .int .i64 1]) ∧ Below W.heap.size W w') := fun W => snap_bad s a b c x y z W h
  have q0 : ∀ w, (Op.equalIn 10000 23 (.agg #[.int .i64 0, .int .i64 0, .int .i64 0]) (.agg #[.int .i64 0, .int .i64 0, .int .i64 0])).run Try.prog w = .ok true w := fun w => eq23 0 0 0 0 0 0 w
  clear h
  go_enter Try.func3, Try.ntmps3
  go_wp2_with fail
  refine (awake_any _).mono ?_
  rintro e w1 ⟨rfl, hb1⟩
  obtain ⟨hc1, hz1⟩ := bcell hb1
  have s1 : w.heap.size + 1 < w1.heap.size := by have := hb1.size; simp at this; omega
  have s1' : w.heap.size < w1.heap.size := by omega
  go_wp2_with fail
  refine (S.out _).mono ?_
  rintro e w2 ⟨rfl, hb2⟩
  obtain ⟨hc2, hz2⟩ := bcell hb2
  have s2 : w.heap.size + 1 < w2.heap.size := by have := hb2.size; omega
  have s2' : w.heap.size < w2.heap.size := by omega
  go_wp2_with fail
  refine (RR.out _).mono ?_
  rintro e w3 ⟨rfl, hb3⟩
  obtain ⟨hc3, hz3⟩ := bcell hb3
  have s3 : w.heap.size + 1 < w3.heap.size := by have := hb3.size; simp at this; omega
  have s3' : w.heap.size < w3.heap.size := by omega
  have s3'' : w2.heap.size < w3.heap.size := by have := hb3.size; simp at this; omega
  go_wp2_with fail
  refine (RL.out _).mono ?_
  rintro e w4 ⟨rfl, hb4⟩
  obtain ⟨hc4, hz4⟩ := bcell hb4
  have s4 : w.heap.size + 1 < w4.heap.size := by have := hb4.size; omega
  have s4' : w.heap.size < w4.heap.size := by omega
  have s4'' : w2.heap.size < w4.heap.size := by have := hb4.size; omega
  go_wp2
  go_ret
  exact ⟨rfl, by (repeat (first | with_reducible exact Below.refl _ _ | with_reducible assumption | with_reducible refine below_drewN ?_ _ | with_reducible refine Below.alloc ?_ (by first | exact Nat.le_refl _ | (simp; done) | (simp; omega) | omega) _ | with_reducible refine Below.setCell ?_ (by first | exact Nat.le_refl _ | (simp; done) | (simp; omega) | omega) _ | with_reducible refine Below.trans ?_ (Below.mono (by with_reducible assumption) (by first | exact Nat.le_refl _ | (simp; done) | (simp; omega) | omega))))⟩

set_option maxHeartbeats 1000000 in
theorem snaps_out (s a b c x y z : Int) (w : World) (h : rightB s a b c = true) (ho : snapOk s a b c x y z = false) :
    Calls Try.prog 3 #[.agg #[.int .i64 s, .int .i64 a, .int .i64 b, .int .i64 c], .agg #[.int .i64 x, .int .i64 y, .int .i64 z]] w fun e w' => e = .returned (.bool true) ∧ Below w.heap.size w w' := by
  have RR : ∀ W, Calls Try.prog 13 #[.int .i64 s, .agg #[.int .i64 a, .int .i64 b, .int .i64 c]] W fun e w' => e = .returned (.bool true) ∧ Below W.heap.size W w' := fun W => by have := refRight_any s a b c W; rw [h] at this; exact this
  have RR := Lib.hid RR
  have RL : ∀ W, Calls Try.prog 14 #[.agg #[.int .i64 s, .int .i64 a, .int .i64 b, .int .i64 c]] W fun e w' => e = .returned (.bool true) ∧ Below W.heap.size W w' := fun W => by have := right_any s a b c W; rw [h] at this; exact this
  have RL := Lib.hid RL
  have S : Hid (∀ W, Calls Try.prog 12 #[.agg #[.int .i64 s, .int .i64 a, .int .i64 b, .int .i64 c], .agg #[.int .i64 x, .int .i64 y, .int .i64 z]] W fun e w' => e = .returned (.tuple #[.agg #[.int .i64 0, .int .i64 0, .int .i64 0], .int .i64 2]) ∧ Below W.heap.size W w') := fun W => snap_out s a b c x y z W h ho
  have F : ∀ W, Calls Try.prog 15 #[.int .i64 s, .agg #[.int .i64 a, .int .i64 b, .int .i64 c], .agg #[.int .i64 x, .int .i64 y, .int .i64 z]] W fun e w' => e = .returned (.tuple #[.agg #[.int .i64 0, .int .i64 0, .int .i64 0], .bool false]) ∧ Below W.heap.size W w' := fun W => by
    have := refSnap_any s a b c x y z W h
    unfold refSnapV at this
    rw [ho] at this
    exact this
  have F := Lib.hid F
  have q0 : ∀ w, (Op.equalIn 10000 23 (.agg #[.int .i64 0, .int .i64 0, .int .i64 0]) (.agg #[.int .i64 0, .int .i64 0, .int .i64 0])).run Try.prog w = .ok true w := fun w => eq23 0 0 0 0 0 0 w
  clear h ho
  go_enter Try.func3, Try.ntmps3
  go_wp2_with fail
  refine (awake_any _).mono ?_
  rintro e w1 ⟨rfl, hb1⟩
  obtain ⟨hc1, hz1⟩ := bcell hb1
  have s1 : w.heap.size + 1 < w1.heap.size := by have := hb1.size; simp at this; omega
  have s1' : w.heap.size < w1.heap.size := by omega
  go_wp2_with fail
  refine (S.out _).mono ?_
  rintro e w2 ⟨rfl, hb2⟩
  obtain ⟨hc2, hz2⟩ := bcell hb2
  have s2 : w.heap.size + 1 < w2.heap.size := by have := hb2.size; omega
  have s2' : w.heap.size < w2.heap.size := by omega
  go_wp2_with fail
  refine (RR.out _).mono ?_
  rintro e w3 ⟨rfl, hb3⟩
  obtain ⟨hc3, hz3⟩ := bcell hb3
  have s3 : w.heap.size + 1 < w3.heap.size := by have := hb3.size; simp at this; omega
  have s3' : w.heap.size < w3.heap.size := by omega
  have s3'' : w2.heap.size < w3.heap.size := by have := hb3.size; simp at this; omega
  go_wp2_with fail
  refine (RL.out _).mono ?_
  rintro e w4 ⟨rfl, hb4⟩
  obtain ⟨hc4, hz4⟩ := bcell hb4
  have s4 : w.heap.size + 1 < w4.heap.size := by have := hb4.size; omega
  have s4' : w.heap.size < w4.heap.size := by omega
  have s4'' : w2.heap.size < w4.heap.size := by have := hb4.size; omega
  go_wp2_with fail
  refine (F.out _).mono ?_
  rintro e w5 ⟨rfl, hb5⟩
  obtain ⟨hc5, hz5⟩ := bcell hb5
  have s5 : w2.heap.size < w5.heap.size := by have := hb5.size; omega
  go_wp2
  go_ret
  exact ⟨rfl, by (repeat (first | with_reducible exact Below.refl _ _ | with_reducible assumption | with_reducible refine below_drewN ?_ _ | with_reducible refine Below.alloc ?_ (by first | exact Nat.le_refl _ | (simp; done) | (simp; omega) | omega) _ | with_reducible refine Below.setCell ?_ (by first | exact Nat.le_refl _ | (simp; done) | (simp; omega) | omega) _ | with_reducible refine Below.trans ?_ (Below.mono (by with_reducible assumption) (by first | exact Nat.le_refl _ | (simp; done) | (simp; omega) | omega))))⟩

set_option maxHeartbeats 1000000 in
theorem snaps_yes (s a b c x y z : Int) (w : World) (h : rightB s a b c = true) (ho : snapOk s a b c x y z = true) :
    Calls Try.prog 3 #[.agg #[.int .i64 s, .int .i64 a, .int .i64 b, .int .i64 c], .agg #[.int .i64 x, .int .i64 y, .int .i64 z]] w fun e w' => e = .returned (.bool true) ∧ Below w.heap.size w w' := by
  have RR : ∀ W, Calls Try.prog 13 #[.int .i64 s, .agg #[.int .i64 a, .int .i64 b, .int .i64 c]] W fun e w' => e = .returned (.bool true) ∧ Below W.heap.size W w' := fun W => by have := refRight_any s a b c W; rw [h] at this; exact this
  have RR := Lib.hid RR
  have RL : ∀ W, Calls Try.prog 14 #[.agg #[.int .i64 s, .int .i64 a, .int .i64 b, .int .i64 c]] W fun e w' => e = .returned (.bool true) ∧ Below W.heap.size W w' := fun W => by have := right_any s a b c W; rw [h] at this; exact this
  have RL := Lib.hid RL
  have S : Hid (∀ W, Calls Try.prog 12 #[.agg #[.int .i64 s, .int .i64 a, .int .i64 b, .int .i64 c], .agg #[.int .i64 x, .int .i64 y, .int .i64 z]] W fun e w' => e = .returned (.tuple #[.agg #[.int .i64 (snapX s (x - a)), .int .i64 (snapX s (y - b)), .int .i64 (snapX s (z - c))], .int .i64 0]) ∧ Below W.heap.size W w') := fun W => snap_yes s a b c x y z W h ho
  have F : ∀ W, Calls Try.prog 15 #[.int .i64 s, .agg #[.int .i64 a, .int .i64 b, .int .i64 c], .agg #[.int .i64 x, .int .i64 y, .int .i64 z]] W fun e w' => e = .returned (.tuple #[.agg #[.int .i64 (snapX s (x - a)), .int .i64 (snapX s (y - b)), .int .i64 (snapX s (z - c))], .bool true]) ∧ Below W.heap.size W w' := fun W => by
    have := refSnap_any s a b c x y z W h
    unfold refSnapV at this
    rw [ho] at this
    exact this
  have F := Lib.hid F
  have q0 : ∀ w, (Op.equalIn 10000 23 (.agg #[.int .i64 (snapX s (x - a)), .int .i64 (snapX s (y - b)), .int .i64 (snapX s (z - c))]) (.agg #[.int .i64 (snapX s (x - a)), .int .i64 (snapX s (y - b)), .int .i64 (snapX s (z - c))])).run Try.prog w = .ok true w := fun w => by have := eq23 (snapX s (x - a)) (snapX s (y - b)) (snapX s (z - c)) (snapX s (x - a)) (snapX s (y - b)) (snapX s (z - c)) w; rw [eqB_refl] at this; exact this
  clear h ho
  go_enter Try.func3, Try.ntmps3
  go_wp2_with fail
  refine (awake_any _).mono ?_
  rintro e w1 ⟨rfl, hb1⟩
  obtain ⟨hc1, hz1⟩ := bcell hb1
  have s1 : w.heap.size + 1 < w1.heap.size := by have := hb1.size; simp at this; omega
  have s1' : w.heap.size < w1.heap.size := by omega
  go_wp2_with fail
  refine (S.out _).mono ?_
  rintro e w2 ⟨rfl, hb2⟩
  obtain ⟨hc2, hz2⟩ := bcell hb2
  have s2 : w.heap.size + 1 < w2.heap.size := by have := hb2.size; omega
  have s2' : w.heap.size < w2.heap.size := by omega
  go_wp2_with fail
  refine (RR.out _).mono ?_
  rintro e w3 ⟨rfl, hb3⟩
  obtain ⟨hc3, hz3⟩ := bcell hb3
  have s3 : w.heap.size + 1 < w3.heap.size := by have := hb3.size; simp at this; omega
  have s3' : w.heap.size < w3.heap.size := by omega
  have s3'' : w2.heap.size < w3.heap.size := by have := hb3.size; simp at this; omega
  go_wp2_with fail
  refine (RL.out _).mono ?_
  rintro e w4 ⟨rfl, hb4⟩
  obtain ⟨hc4, hz4⟩ := bcell hb4
  have s4 : w.heap.size + 1 < w4.heap.size := by have := hb4.size; omega
  have s4' : w.heap.size < w4.heap.size := by omega
  have s4'' : w2.heap.size < w4.heap.size := by have := hb4.size; omega
  go_wp2_with fail
  refine (F.out _).mono ?_
  rintro e w5 ⟨rfl, hb5⟩
  obtain ⟨hc5, hz5⟩ := bcell hb5
  have s5 : w2.heap.size < w5.heap.size := by have := hb5.size; omega
  go_wp2
  go_ret
  exact ⟨rfl, by (repeat (first | with_reducible exact Below.refl _ _ | with_reducible assumption | with_reducible refine below_drewN ?_ _ | with_reducible refine Below.alloc ?_ (by first | exact Nat.le_refl _ | (simp; done) | (simp; omega) | omega) _ | with_reducible refine Below.setCell ?_ (by first | exact Nat.le_refl _ | (simp; done) | (simp; omega) | omega) _ | with_reducible refine Below.trans ?_ (Below.mono (by with_reducible assumption) (by first | exact Nat.le_refl _ | (simp; done) | (simp; omega) | omega))))⟩

theorem snaps_any (s a b c x y z : Int) (w : World) :
    Calls Try.prog 3 #[.agg #[.int .i64 s, .int .i64 a, .int .i64 b, .int .i64 c], .agg #[.int .i64 x, .int .i64 y, .int .i64 z]] w fun e w' => e = .returned (.bool true) ∧ Below w.heap.size w w' := by
  by_cases h : rightB s a b c = true
  · by_cases ho : snapOk s a b c x y z = true
    · exact snaps_yes s a b c x y z w h ho
    · exact snaps_out s a b c x y z w h (by simpa using ho)
  · exact snaps_bad s a b c x y z w (by simpa using h)
end Go.Proofs.Ytppkbnajpeoaaaa
