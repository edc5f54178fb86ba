/- 'each' over the closures of Snap and Real: walks. -/
import Derived.Test.YtppkbnajpeoaaaaA2
namespace Go.Proofs.Ytppkbnajpeoaaaa
open Go.RowKit

theorem drewN_below (w : World) (n : Nat) : Below w.heap.size w (w.drewN n) := by
  refine ⟨rfl, rfl, rfl, Nat.le_refl _, fun _ _ => rfl⟩
theorem below_drewN {B : Nat} {a w : World} (h : Below B a w) (n : Nat) : Below B a (w.drewN n) := ⟨h.os, h.tape, h.output, h.size, h.block⟩

set_option maxHeartbeats 400000 in
theorem each_yes24 (p q : Value) (x : Nat → Int) (w : World)
    (hf : ∀ k : Nat, k < 3 → ∀ W, Below w.heap.size w W → Calls Try.prog 24 #[.int .i64 (k : Int), p, q] W fun e w' => e = .returned (.tuple #[.int .i64 (x k), .bool true]) ∧ ∃ n, w' = W.drewN n) :
    Calls Try.prog 23 #[.func (.func 24) #[] #[p, q]] w fun e w' => e = .returned (.tuple #[pt (x 0) (x 1) (x 2), .bool true]) ∧ Below w.heap.size w w' := by
  have H := Lib.hid hf
  clear hf
  go_enter Try.func23, Try.ntmps23
  go_wp2
  refine wp_loop_rounds 4 ?_
  rw [rounds_succ]
  go_wp2_with fail
  refine (H.out 0 (by omega) _ ?_).mono ?_
  · (repeat (first | with_reducible exact Below.refl _ _ | with_reducible assumption | with_reducible refine below_drewN ?_ _ | with_reducible refine Below.alloc ?_ (by first | exact Nat.le_refl _ | (simp; done) | (simp; omega) | omega) _ | with_reducible refine Below.setCell ?_ (by first | exact Nat.le_refl _ | (simp; done) | (simp; omega) | omega) _))
  rintro e w' ⟨rfl, n0, rfl⟩
  go_wp2
  rw [rounds_succ]
  go_wp2_with fail
  refine (H.out 1 (by omega) _ ?_).mono ?_
  · (repeat (first | with_reducible exact Below.refl _ _ | with_reducible assumption | with_reducible refine below_drewN ?_ _ | with_reducible refine Below.alloc ?_ (by first | exact Nat.le_refl _ | (simp; done) | (simp; omega) | omega) _ | with_reducible refine Below.setCell ?_ (by first | exact Nat.le_refl _ | (simp; done) | (simp; omega) | omega) _))
  rintro e w' ⟨rfl, n1, rfl⟩
  go_wp2
  rw [rounds_succ]
  go_wp2_with fail
  refine (H.out 2 (by omega) _ ?_).mono ?_
  · (repeat (first | with_reducible exact Below.refl _ _ | with_reducible assumption | with_reducible refine below_drewN ?_ _ | with_reducible refine Below.alloc ?_ (by first | exact Nat.le_refl _ | (simp; done) | (simp; omega) | omega) _ | with_reducible refine Below.setCell ?_ (by first | exact Nat.le_refl _ | (simp; done) | (simp; omega) | omega) _))
  rintro e w' ⟨rfl, n2, rfl⟩
  go_wp2
  rw [rounds_succ]
  go_wp2_with fail
  exact bodyPost_ret (v := .tuple #[pt (x 0) (x 1) (x 2), .bool true]) (by simp [results, Try.results23, go_sem, pt]) rfl ⟨rfl, by (repeat (first | with_reducible exact Below.refl _ _ | with_reducible assumption | with_reducible refine below_drewN ?_ _ | with_reducible refine Below.alloc ?_ (by first | exact Nat.le_refl _ | (simp; done) | (simp; omega) | omega) _ | with_reducible refine Below.setCell ?_ (by first | exact Nat.le_refl _ | (simp; done) | (simp; omega) | omega) _))⟩

set_option maxHeartbeats 400000 in
theorem each_no24_0 (p q : Value) (x : Nat → Int) (w : World)
    (_hf : ∀ k : Nat, k < 0 → ∀ W, Below w.heap.size w W → Calls Try.prog 24 #[.int .i64 (k : Int), p, q] W fun e w' => e = .returned (.tuple #[.int .i64 (x k), .bool true]) ∧ ∃ n, w' = W.drewN n)
    (hn : ∀ W, Below w.heap.size w W → Calls Try.prog 24 #[.int .i64 (0 : Int), p, q] W fun e w' => e = .returned (.tuple #[.int .i64 (x 0), .bool false]) ∧ ∃ n, w' = W.drewN n) :
    Calls Try.prog 23 #[.func (.func 24) #[] #[p, q]] w fun e w' => e = .returned (.tuple #[pt 0 0 0, .bool false]) ∧ Below w.heap.size w w' := by
  clear _hf
  have HN := Lib.hid hn
  clear hn
  go_enter Try.func23, Try.ntmps23
  go_wp2
  refine wp_loop_rounds 4 ?_
  rw [rounds_succ]
  go_wp2_with fail
  refine (HN.out _ ?_).mono ?_
  · (repeat (first | with_reducible exact Below.refl _ _ | with_reducible assumption | with_reducible refine below_drewN ?_ _ | with_reducible refine Below.alloc ?_ (by first | exact Nat.le_refl _ | (simp; done) | (simp; omega) | omega) _ | with_reducible refine Below.setCell ?_ (by first | exact Nat.le_refl _ | (simp; done) | (simp; omega) | omega) _))
  rintro e w' ⟨rfl, n0, rfl⟩
  go_wp2
  exact bodyPost_ret (v := .tuple #[pt 0 0 0, .bool false]) (by simp [results, Try.results23, go_sem, pt]) rfl ⟨rfl, by (repeat (first | with_reducible exact Below.refl _ _ | with_reducible assumption | with_reducible refine below_drewN ?_ _ | with_reducible refine Below.alloc ?_ (by first | exact Nat.le_refl _ | (simp; done) | (simp; omega) | omega) _ | with_reducible refine Below.setCell ?_ (by first | exact Nat.le_refl _ | (simp; done) | (simp; omega) | omega) _))⟩

set_option maxHeartbeats 400000 in
theorem each_no24_1 (p q : Value) (x : Nat → Int) (w : World)
    (hf : ∀ k : Nat, k < 1 → ∀ W, Below w.heap.size w W → Calls Try.prog 24 #[.int .i64 (k : Int), p, q] W fun e w' => e = .returned (.tuple #[.int .i64 (x k), .bool true]) ∧ ∃ n, w' = W.drewN n)
    (hn : ∀ W, Below w.heap.size w W → Calls Try.prog 24 #[.int .i64 (1 : Int), p, q] W fun e w' => e = .returned (.tuple #[.int .i64 (x 1), .bool false]) ∧ ∃ n, w' = W.drewN n) :
    Calls Try.prog 23 #[.func (.func 24) #[] #[p, q]] w fun e w' => e = .returned (.tuple #[pt 0 0 0, .bool false]) ∧ Below w.heap.size w w' := by
  have H := Lib.hid hf
  clear hf
  have HN := Lib.hid hn
  clear hn
  go_enter Try.func23, Try.ntmps23
  go_wp2
  refine wp_loop_rounds 4 ?_
  rw [rounds_succ]
  go_wp2_with fail
  refine (H.out 0 (by omega) _ ?_).mono ?_
  · (repeat (first | with_reducible exact Below.refl _ _ | with_reducible assumption | with_reducible refine below_drewN ?_ _ | with_reducible refine Below.alloc ?_ (by first | exact Nat.le_refl _ | (simp; done) | (simp; omega) | omega) _ | with_reducible refine Below.setCell ?_ (by first | exact Nat.le_refl _ | (simp; done) | (simp; omega) | omega) _))
  rintro e w' ⟨rfl, n0, rfl⟩
  go_wp2
  rw [rounds_succ]
  go_wp2_with fail
  refine (HN.out _ ?_).mono ?_
  · (repeat (first | with_reducible exact Below.refl _ _ | with_reducible assumption | with_reducible refine below_drewN ?_ _ | with_reducible refine Below.alloc ?_ (by first | exact Nat.le_refl _ | (simp; done) | (simp; omega) | omega) _ | with_reducible refine Below.setCell ?_ (by first | exact Nat.le_refl _ | (simp; done) | (simp; omega) | omega) _))
  rintro e w' ⟨rfl, n1, rfl⟩
  go_wp2
  exact bodyPost_ret (v := .tuple #[pt 0 0 0, .bool false]) (by simp [results, Try.results23, go_sem, pt]) rfl ⟨rfl, by (repeat (first | with_reducible exact Below.refl _ _ | with_reducible assumption | with_reducible refine below_drewN ?_ _ | with_reducible refine Below.alloc ?_ (by first | exact Nat.le_refl _ | (simp; done) | (simp; omega) | omega) _ | with_reducible refine Below.setCell ?_ (by first | exact Nat.le_refl _ | (simp; done) | (simp; omega) | omega) _))⟩

set_option maxHeartbeats 400000 in
theorem each_no24_2 (p q : Value) (x : Nat → Int) (w : World)
    (hf : ∀ k : Nat, k < 2 → ∀ W, Below w.heap.size w W → Calls Try.prog 24 #[.int .i64 (k : Int), p, q] W fun e w' => e = .returned (.tuple #[.int .i64 (x k), .bool true]) ∧ ∃ n, w' = W.drewN n)
    (hn : ∀ W, Below w.heap.size w W → Calls Try.prog 24 #[.int .i64 (2 : Int), p, q] W fun e w' => e = .returned (.tuple #[.int .i64 (x 2), .bool false]) ∧ ∃ n, w' = W.drewN n) :
    Calls Try.prog 23 #[.func (.func 24) #[] #[p, q]] w fun e w' => e = .returned (.tuple #[pt 0 0 0, .bool false]) ∧ Below w.heap.size w w' := by
  have H := Lib.hid hf
  clear hf
  have HN := Lib.hid hn
  clear hn
  go_enter Try.func23, Try.ntmps23
  go_wp2
  refine wp_loop_rounds 4 ?_
  rw [rounds_succ]
  go_wp2_with fail
  refine (H.out 0 (by omega) _ ?_).mono ?_
  · (repeat (first | with_reducible exact Below.refl _ _ | with_reducible assumption | with_reducible refine below_drewN ?_ _ | with_reducible refine Below.alloc ?_ (by first | exact Nat.le_refl _ | (simp; done) | (simp; omega) | omega) _ | with_reducible refine Below.setCell ?_ (by first | exact Nat.le_refl _ | (simp; done) | (simp; omega) | omega) _))
  rintro e w' ⟨rfl, n0, rfl⟩
  go_wp2
  rw [rounds_succ]
  go_wp2_with fail
  refine (H.out 1 (by omega) _ ?_).mono ?_
  · (repeat (first | with_reducible exact Below.refl _ _ | with_reducible assumption | with_reducible refine below_drewN ?_ _ | with_reducible refine Below.alloc ?_ (by first | exact Nat.le_refl _ | (simp; done) | (simp; omega) | omega) _ | with_reducible refine Below.setCell ?_ (by first | exact Nat.le_refl _ | (simp; done) | (simp; omega) | omega) _))
  rintro e w' ⟨rfl, n1, rfl⟩
  go_wp2
  rw [rounds_succ]
  go_wp2_with fail
  refine (HN.out _ ?_).mono ?_
  · (repeat (first | with_reducible exact Below.refl _ _ | with_reducible assumption | with_reducible refine below_drewN ?_ _ | with_reducible refine Below.alloc ?_ (by first | exact Nat.le_refl _ | (simp; done) | (simp; omega) | omega) _ | with_reducible refine Below.setCell ?_ (by first | exact Nat.le_refl _ | (simp; done) | (simp; omega) | omega) _))
  rintro e w' ⟨rfl, n2, rfl⟩
  go_wp2
  exact bodyPost_ret (v := .tuple #[pt 0 0 0, .bool false]) (by simp [results, Try.results23, go_sem, pt]) rfl ⟨rfl, by (repeat (first | with_reducible exact Below.refl _ _ | with_reducible assumption | with_reducible refine below_drewN ?_ _ | with_reducible refine Below.alloc ?_ (by first | exact Nat.le_refl _ | (simp; done) | (simp; omega) | omega) _ | with_reducible refine Below.setCell ?_ (by first | exact Nat.le_refl _ | (simp; done) | (simp; omega) | omega) _))⟩

theorem each_no24 (p q : Value) (x : Nat → Int) (o : Nat → Bool) (w : World)
    (hf : ∀ k : Nat, k < 3 → ∀ W, Below w.heap.size w W → Calls Try.prog 24 #[.int .i64 (k : Int), p, q] W fun e w' => e = .returned (.tuple #[.int .i64 (x k), .bool (o k)]) ∧ ∃ n, w' = W.drewN n)
    (ho : (o 0 && o 1 && o 2) = false) :
    Calls Try.prog 23 #[.func (.func 24) #[] #[p, q]] w fun e w' => e = .returned (.tuple #[pt 0 0 0, .bool false]) ∧ Below w.heap.size w w' := by
  by_cases h0 : o 0 = true
  · by_cases h1 : o 1 = true
    · have h2 : o 2 = false := by simpa [h0, h1] using ho
      refine each_no24_2 p q x w (fun k hk W hW => ?_) (fun W hW => by have := hf 2 (by omega) W hW; rw [h2] at this; exact this)
      have := hf k (by omega) W hW
      rcases (show k = 0 ∨ k = 1 by omega) with rfl | rfl
      · rw [h0] at this; exact this
      · rw [h1] at this; exact this
    · have h1 : o 1 = false := by simpa using h1
      refine each_no24_1 p q x w (fun k hk W hW => ?_) (fun W hW => by have := hf 1 (by omega) W hW; rw [h1] at this; exact this)
      have := hf k (by omega) W hW
      obtain rfl : k = 0 := by omega
      rw [h0] at this; exact this
  · have h0 : o 0 = false := by simpa using h0
    exact each_no24_0 p q x w (fun k hk W hW => absurd hk (by omega)) (fun W hW => by have := hf 0 (by omega) W hW; rw [h0] at this; exact this)

set_option maxHeartbeats 400000 in
theorem each_yes26 (p q : Value) (x : Nat → Int) (w : World)
    (hf : ∀ k : Nat, k < 3 → ∀ W, Below w.heap.size w W → Calls Try.prog 26 #[.int .i64 (k : Int), p, q] W fun e w' => e = .returned (.tuple #[.int .i64 (x k), .bool true]) ∧ ∃ n, w' = W.drewN n) :
    Calls Try.prog 23 #[.func (.func 26) #[] #[p, q]] w fun e w' => e = .returned (.tuple #[pt (x 0) (x 1) (x 2), .bool true]) ∧ Below w.heap.size w w' := by
  have H := Lib.hid hf
  clear hf
  go_enter Try.func23, Try.ntmps23
  go_wp2
  refine wp_loop_rounds 4 ?_
  rw [rounds_succ]
  go_wp2_with fail
  refine (H.out 0 (by omega) _ ?_).mono ?_
  · (repeat (first | with_reducible exact Below.refl _ _ | with_reducible assumption | with_reducible refine below_drewN ?_ _ | with_reducible refine Below.alloc ?_ (by first | exact Nat.le_refl _ | (simp; done) | (simp; omega) | omega) _ | with_reducible refine Below.setCell ?_ (by first | exact Nat.le_refl _ | (simp; done) | (simp; omega) | omega) _))
  rintro e w' ⟨rfl, n0, rfl⟩
  go_wp2
  rw [rounds_succ]
  go_wp2_with fail
  refine (H.out 1 (by omega) _ ?_).mono ?_
  · (repeat (first | with_reducible exact Below.refl _ _ | with_reducible assumption | with_reducible refine below_drewN ?_ _ | with_reducible refine Below.alloc ?_ (by first | exact Nat.le_refl _ | (simp; done) | (simp; omega) | omega) _ | with_reducible refine Below.setCell ?_ (by first | exact Nat.le_refl _ | (simp; done) | (simp; omega) | omega) _))
  rintro e w' ⟨rfl, n1, rfl⟩
  go_wp2
  rw [rounds_succ]
  go_wp2_with fail
  refine (H.out 2 (by omega) _ ?_).mono ?_
  · (repeat (first | with_reducible exact Below.refl _ _ | with_reducible assumption | with_reducible refine below_drewN ?_ _ | with_reducible refine Below.alloc ?_ (by first | exact Nat.le_refl _ | (simp; done) | (simp; omega) | omega) _ | with_reducible refine Below.setCell ?_ (by first | exact Nat.le_refl _ | (simp; done) | (simp; omega) | omega) _))
  rintro e w' ⟨rfl, n2, rfl⟩
  go_wp2
  rw [rounds_succ]
  go_wp2_with fail
  exact bodyPost_ret (v := .tuple #[pt (x 0) (x 1) (x 2), .bool true]) (by simp [results, Try.results23, go_sem, pt]) rfl ⟨rfl, by (repeat (first | with_reducible exact Below.refl _ _ | with_reducible assumption | with_reducible refine below_drewN ?_ _ | with_reducible refine Below.alloc ?_ (by first | exact Nat.le_refl _ | (simp; done) | (simp; omega) | omega) _ | with_reducible refine Below.setCell ?_ (by first | exact Nat.le_refl _ | (simp; done) | (simp; omega) | omega) _))⟩

set_option maxHeartbeats 400000 in
theorem each_no26_0 (p q : Value) (x : Nat → Int) (w : World)
    (_hf : ∀ k : Nat, k < 0 → ∀ W, Below w.heap.size w W → Calls Try.prog 26 #[.int .i64 (k : Int), p, q] W fun e w' => e = .returned (.tuple #[.int .i64 (x k), .bool true]) ∧ ∃ n, w' = W.drewN n)
    (hn : ∀ W, Below w.heap.size w W → Calls Try.prog 26 #[.int .i64 (0 : Int), p, q] W fun e w' => e = .returned (.tuple #[.int .i64 (x 0), .bool false]) ∧ ∃ n, w' = W.drewN n) :
    Calls Try.prog 23 #[.func (.func 26) #[] #[p, q]] w fun e w' => e = .returned (.tuple #[pt 0 0 0, .bool false]) ∧ Below w.heap.size w w' := by
  clear _hf
  have HN := Lib.hid hn
  clear hn
  go_enter Try.func23, Try.ntmps23
  go_wp2
  refine wp_loop_rounds 4 ?_
  rw [rounds_succ]
  go_wp2_with fail
  refine (HN.out _ ?_).mono ?_
  · (repeat (first | with_reducible exact Below.refl _ _ | with_reducible assumption | with_reducible refine below_drewN ?_ _ | with_reducible refine Below.alloc ?_ (by first | exact Nat.le_refl _ | (simp; done) | (simp; omega) | omega) _ | with_reducible refine Below.setCell ?_ (by first | exact Nat.le_refl _ | (simp; done) | (simp; omega) | omega) _))
  rintro e w' ⟨rfl, n0, rfl⟩
  go_wp2
  exact bodyPost_ret (v := .tuple #[pt 0 0 0, .bool false]) (by simp [results, Try.results23, go_sem, pt]) rfl ⟨rfl, by (repeat (first | with_reducible exact Below.refl _ _ | with_reducible assumption | with_reducible refine below_drewN ?_ _ | with_reducible refine Below.alloc ?_ (by first | exact Nat.le_refl _ | (simp; done) | (simp; omega) | omega) _ | with_reducible refine Below.setCell ?_ (by first | exact Nat.le_refl _ | (simp; done) | (simp; omega) | omega) _))⟩

set_option maxHeartbeats 400000 in
theorem each_no26_1 (p q : Value) (x : Nat → Int) (w : World)
    (hf : ∀ k : Nat, k < 1 → ∀ W, Below w.heap.size w W → Calls Try.prog 26 #[.int .i64 (k : Int), p, q] W fun e w' => e = .returned (.tuple #[.int .i64 (x k), .bool true]) ∧ ∃ n, w' = W.drewN n)
    (hn : ∀ W, Below w.heap.size w W → Calls Try.prog 26 #[.int .i64 (1 : Int), p, q] W fun e w' => e = .returned (.tuple #[.int .i64 (x 1), .bool false]) ∧ ∃ n, w' = W.drewN n) :
    Calls Try.prog 23 #[.func (.func 26) #[] #[p, q]] w fun e w' => e = .returned (.tuple #[pt 0 0 0, .bool false]) ∧ Below w.heap.size w w' := by
  have H := Lib.hid hf
  clear hf
  have HN := Lib.hid hn
  clear hn
  go_enter Try.func23, Try.ntmps23
  go_wp2
  refine wp_loop_rounds 4 ?_
  rw [rounds_succ]
  go_wp2_with fail
  refine (H.out 0 (by omega) _ ?_).mono ?_
  · (repeat (first | with_reducible exact Below.refl _ _ | with_reducible assumption | with_reducible refine below_drewN ?_ _ | with_reducible refine Below.alloc ?_ (by first | exact Nat.le_refl _ | (simp; done) | (simp; omega) | omega) _ | with_reducible refine Below.setCell ?_ (by first | exact Nat.le_refl _ | (simp; done) | (simp; omega) | omega) _))
  rintro e w' ⟨rfl, n0, rfl⟩
  go_wp2
  rw [rounds_succ]
  go_wp2_with fail
  refine (HN.out _ ?_).mono ?_
  · (repeat (first | with_reducible exact Below.refl _ _ | with_reducible assumption | with_reducible refine below_drewN ?_ _ | with_reducible refine Below.alloc ?_ (by first | exact Nat.le_refl _ | (simp; done) | (simp; omega) | omega) _ | with_reducible refine Below.setCell ?_ (by first | exact Nat.le_refl _ | (simp; done) | (simp; omega) | omega) _))
  rintro e w' ⟨rfl, n1, rfl⟩
  go_wp2
  exact bodyPost_ret (v := .tuple #[pt 0 0 0, .bool false]) (by simp [results, Try.results23, go_sem, pt]) rfl ⟨rfl, by (repeat (first | with_reducible exact Below.refl _ _ | with_reducible assumption | with_reducible refine below_drewN ?_ _ | with_reducible refine Below.alloc ?_ (by first | exact Nat.le_refl _ | (simp; done) | (simp; omega) | omega) _ | with_reducible refine Below.setCell ?_ (by first | exact Nat.le_refl _ | (simp; done) | (simp; omega) | omega) _))⟩

set_option maxHeartbeats 400000 in
theorem each_no26_2 (p q : Value) (x : Nat → Int) (w : World)
    (hf : ∀ k : Nat, k < 2 → ∀ W, Below w.heap.size w W → Calls Try.prog 26 #[.int .i64 (k : Int), p, q] W fun e w' => e = .returned (.tuple #[.int .i64 (x k), .bool true]) ∧ ∃ n, w' = W.drewN n)
    (hn : ∀ W, Below w.heap.size w W → Calls Try.prog 26 #[.int .i64 (2 : Int), p, q] W fun e w' => e = .returned (.tuple #[.int .i64 (x 2), .bool false]) ∧ ∃ n, w' = W.drewN n) :
    Calls Try.prog 23 #[.func (.func 26) #[] #[p, q]] w fun e w' => e = .returned (.tuple #[pt 0 0 0, .bool false]) ∧ Below w.heap.size w w' := by
  have H := Lib.hid hf
  clear hf
  have HN := Lib.hid hn
  clear hn
  go_enter Try.func23, Try.ntmps23
  go_wp2
  refine wp_loop_rounds 4 ?_
  rw [rounds_succ]
  go_wp2_with fail
  refine (H.out 0 (by omega) _ ?_).mono ?_
  · (repeat (first | with_reducible exact Below.refl _ _ | with_reducible assumption | with_reducible refine below_drewN ?_ _ | with_reducible refine Below.alloc ?_ (by first | exact Nat.le_refl _ | (simp; done) | (simp; omega) | omega) _ | with_reducible refine Below.setCell ?_ (by first | exact Nat.le_refl _ | (simp; done) | (simp; omega) | omega) _))
  rintro e w' ⟨rfl, n0, rfl⟩
  go_wp2
  rw [rounds_succ]
  go_wp2_with fail
  refine (H.out 1 (by omega) _ ?_).mono ?_
  · (repeat (first | with_reducible exact Below.refl _ _ | with_reducible assumption | with_reducible refine below_drewN ?_ _ | with_reducible refine Below.alloc ?_ (by first | exact Nat.le_refl _ | (simp; done) | (simp; omega) | omega) _ | with_reducible refine Below.setCell ?_ (by first | exact Nat.le_refl _ | (simp; done) | (simp; omega) | omega) _))
  rintro e w' ⟨rfl, n1, rfl⟩
  go_wp2
  rw [rounds_succ]
  go_wp2_with fail
  refine (HN.out _ ?_).mono ?_
  · (repeat (first | with_reducible exact Below.refl _ _ | with_reducible assumption | with_reducible refine below_drewN ?_ _ | with_reducible refine Below.alloc ?_ (by first | exact Nat.le_refl _ | (simp; done) | (simp; omega) | omega) _ | with_reducible refine Below.setCell ?_ (by first | exact Nat.le_refl _ | (simp; done) | (simp; omega) | omega) _))
  rintro e w' ⟨rfl, n2, rfl⟩
  go_wp2
  exact bodyPost_ret (v := .tuple #[pt 0 0 0, .bool false]) (by simp [results, Try.results23, go_sem, pt]) rfl ⟨rfl, by (repeat (first | with_reducible exact Below.refl _ _ | with_reducible assumption | with_reducible refine below_drewN ?_ _ | with_reducible refine Below.alloc ?_ (by first | exact Nat.le_refl _ | (simp; done) | (simp; omega) | omega) _ | with_reducible refine Below.setCell ?_ (by first | exact Nat.le_refl _ | (simp; done) | (simp; omega) | omega) _))⟩

theorem each_no26 (p q : Value) (x : Nat → Int) (o : Nat → Bool) (w : World)
    (hf : ∀ k : Nat, k < 3 → ∀ W, Below w.heap.size w W → Calls Try.prog 26 #[.int .i64 (k : Int), p, q] W fun e w' => e = .returned (.tuple #[.int .i64 (x k), .bool (o k)]) ∧ ∃ n, w' = W.drewN n)
    (ho : (o 0 && o 1 && o 2) = false) :
    Calls Try.prog 23 #[.func (.func 26) #[] #[p, q]] w fun e w' => e = .returned (.tuple #[pt 0 0 0, .bool false]) ∧ Below w.heap.size w w' := by
  by_cases h0 : o 0 = true
  · by_cases h1 : o 1 = true
    · have h2 : o 2 = false := by simpa [h0, h1] using ho
      refine each_no26_2 p q x w (fun k hk W hW => ?_) (fun W hW => by have := hf 2 (by omega) W hW; rw [h2] at this; exact this)
      have := hf k (by omega) W hW
      rcases (show k = 0 ∨ k = 1 by omega) with rfl | rfl
      · rw [h0] at this; exact this
      · rw [h1] at this; exact this
    · have h1 : o 1 = false := by simpa using h1
      refine each_no26_1 p q x w (fun k hk W hW => ?_) (fun W hW => by have := hf 1 (by omega) W hW; rw [h1] at this; exact this)
      have := hf k (by omega) W hW
      obtain rfl : k = 0 := by omega
      rw [h0] at this; exact this
  · have h0 : o 0 = false := by simpa using h0
    exact each_no26_0 p q x w (fun k hk W hW => absurd hk (by omega)) (fun W hW => by have := hf 0 (by omega) W hW; rw [h0] at this; exact this)
end Go.Proofs.Ytppkbnajpeoaaaa
