/- LatticeFar: plain facts and the law's walk. -/
import Derived.Test.YtppkbnajpeoaaaaB1
namespace Go.Proofs.Ytppkbnajpeoaaaa
open Go.RowKit

theorem farC_comm (a b : Int) : farC a b = farC b a := by
  unfold farC
  (repeat' split) <;> omega
theorem farTo_comm (a b c x y z : Int) : farTo a b c x y z 3 = farTo x y z a b c 3 := by
  simp only [farTo, farC_comm a x, farC_comm b y, farC_comm c z]
theorem farC_zero (a b : Int) : farC a b = 0 ↔ a = b := by
  unfold farC
  split <;> split <;> omega
theorem mx_zero (a b : Int) (ha : 0 ≤ a) (hb : 0 ≤ b) : mx a b = 0 ↔ a = 0 ∧ b = 0 := by
  unfold mx
  split <;> omega
theorem farTo_zero (a b c x y z : Int) : farTo a b c x y z 3 = 0 ↔ eqB a b c x y z = true := by
  have h1 := farC_nonneg a x
  have h2 := farC_nonneg b y
  have h3 := farC_nonneg c z
  have h0 : (0 : Int) ≤ 0 ∧ (0 : Int) ≤ 9223372036854775807 := by omega
  have h4 := mx_nonneg _ _ h0 h1
  have h5 := mx_nonneg _ _ h4 h2
  show mx (mx (mx 0 (farC a x)) (farC b y)) (farC c z) = 0 ↔ _
  rw [mx_zero _ _ h5.1 h3.1, mx_zero _ _ h4.1 h2.1, mx_zero _ _ h0.1 h1.1, farC_zero, farC_zero, farC_zero]
  simp [eqB, and_assoc]

set_option maxHeartbeats 1000000 in
theorem farL_eq (a b c x y z : Int) (w : World) 
    (F : Hid (∀ W, Calls Try.prog 17 #[.agg #[.int .i64 a, .int .i64 b, .int .i64 c], .agg #[.int .i64 x, .int .i64 y, .int .i64 z]] W fun e w' => e = .returned (.int .i64 0) ∧ Below W.heap.size W w'))
    (F2 : Hid (∀ W, Calls Try.prog 17 #[.agg #[.int .i64 x, .int .i64 y, .int .i64 z], .agg #[.int .i64 a, .int .i64 b, .int .i64 c]] W fun e w' => e = .returned (.int .i64 0) ∧ Below W.heap.size W w'))
    (G : Hid (∀ W, Calls Try.prog 18 #[.agg #[.int .i64 a, .int .i64 b, .int .i64 c], .agg #[.int .i64 x, .int .i64 y, .int .i64 z]] W fun e w' => e = .returned (.int .i64 0) ∧ Below W.heap.size W w')) (q : eqB a b c x y z = true) :
    Calls Try.prog 5 #[.agg #[.int .i64 a, .int .i64 b, .int .i64 c], .agg #[.int .i64 x, .int .i64 y, .int .i64 z]] w fun e w' => e = .returned (.bool true) ∧ Below w.heap.size w w' := by
  have q0 : ∀ w, (Op.equalIn 10000 23 (.agg #[.int .i64 a, .int .i64 b, .int .i64 c]) (.agg #[.int .i64 x, .int .i64 y, .int .i64 z])).run Try.prog w = .ok true w := fun w => by rw [eq23, q]
  clear q
  go_enter Try.func5, Try.ntmps5
  go_wp2_with fail
  refine (awake_any _).mono ?_
  rintro e w1 ⟨rfl, hb1⟩
  obtain ⟨hc1, hz1⟩ := bcell hb1
  have s1 : w.heap.size + 1 < w1.heap.size := by have := hb1.size; simp at this; omega
  have s1' : w.heap.size < w1.heap.size := by omega
  go_wp2_with fail
  refine (F.out _).mono ?_
  rintro e w2 ⟨rfl, hb2⟩
  obtain ⟨hc2, hz2⟩ := bcell hb2
  have s2 : w.heap.size + 1 < w2.heap.size := by have := hb2.size; omega
  have s2' : w.heap.size < w2.heap.size := by omega
  go_wp2_with fail
  refine (G.out _).mono ?_
  rintro e w3 ⟨rfl, hb3⟩
  obtain ⟨hc3, hz3⟩ := bcell hb3
  have s3 : w.heap.size + 1 < w3.heap.size := by have := hb3.size; omega
  have s3' : w.heap.size < w3.heap.size := by omega
  go_wp2_with fail
  refine (F2.out _).mono ?_
  rintro e w4 ⟨rfl, hb4⟩
  obtain ⟨hc4, hz4⟩ := bcell hb4
  have s4 : w.heap.size + 1 < w4.heap.size := by have := hb4.size; omega
  have s4' : w.heap.size < w4.heap.size := by omega
  go_wp2
  go_ret
  exact ⟨ret_bool (by first | rfl | (simp; omega)), by (repeat (first | with_reducible exact Below.refl _ _ | with_reducible assumption | with_reducible refine below_drewN ?_ _ | with_reducible refine Below.alloc ?_ (by first | exact Nat.le_refl _ | (simp; done) | (simp; omega) | omega) _ | with_reducible refine Below.setCell ?_ (by first | exact Nat.le_refl _ | (simp; done) | (simp; omega) | omega) _ | with_reducible refine Below.trans ?_ (Below.mono (by with_reducible assumption) (by first | exact Nat.le_refl _ | (simp; done) | (simp; omega) | omega))))⟩

set_option maxHeartbeats 1000000 in
theorem farL_ne (a b c x y z D : Int) (w : World) (hD : 0 < D) (hD2 : (D == 0) = false)
    (F : Hid (∀ W, Calls Try.prog 17 #[.agg #[.int .i64 a, .int .i64 b, .int .i64 c], .agg #[.int .i64 x, .int .i64 y, .int .i64 z]] W fun e w' => e = .returned (.int .i64 D) ∧ Below W.heap.size W w'))
    (F2 : Hid (∀ W, Calls Try.prog 17 #[.agg #[.int .i64 x, .int .i64 y, .int .i64 z], .agg #[.int .i64 a, .int .i64 b, .int .i64 c]] W fun e w' => e = .returned (.int .i64 D) ∧ Below W.heap.size W w'))
    (G : Hid (∀ W, Calls Try.prog 18 #[.agg #[.int .i64 a, .int .i64 b, .int .i64 c], .agg #[.int .i64 x, .int .i64 y, .int .i64 z]] W fun e w' => e = .returned (.int .i64 D) ∧ Below W.heap.size W w')) (q : eqB a b c x y z = false) :
    Calls Try.prog 5 #[.agg #[.int .i64 a, .int .i64 b, .int .i64 c], .agg #[.int .i64 x, .int .i64 y, .int .i64 z]] w fun e w' => e = .returned (.bool true) ∧ Below w.heap.size w w' := by
  have q0 : ∀ w, (Op.equalIn 10000 23 (.agg #[.int .i64 a, .int .i64 b, .int .i64 c]) (.agg #[.int .i64 x, .int .i64 y, .int .i64 z])).run Try.prog w = .ok false w := fun w => by rw [eq23, q]
  clear q
  go_enter Try.func5, Try.ntmps5
  go_wp2_with fail
  refine (awake_any _).mono ?_
  rintro e w1 ⟨rfl, hb1⟩
  obtain ⟨hc1, hz1⟩ := bcell hb1
  have s1 : w.heap.size + 1 < w1.heap.size := by have := hb1.size; simp at this; omega
  have s1' : w.heap.size < w1.heap.size := by omega
  go_wp2_with fail
  refine (F.out _).mono ?_
  rintro e w2 ⟨rfl, hb2⟩
  obtain ⟨hc2, hz2⟩ := bcell hb2
  have s2 : w.heap.size + 1 < w2.heap.size := by have := hb2.size; omega
  have s2' : w.heap.size < w2.heap.size := by omega
  go_wp2_with fail
  refine (G.out _).mono ?_
  rintro e w3 ⟨rfl, hb3⟩
  obtain ⟨hc3, hz3⟩ := bcell hb3
  have s3 : w.heap.size + 1 < w3.heap.size := by have := hb3.size; omega
  have s3' : w.heap.size < w3.heap.size := by omega
  go_wp2_with fail
  refine (F2.out _).mono ?_
  rintro e w4 ⟨rfl, hb4⟩
  obtain ⟨hc4, hz4⟩ := bcell hb4
  have s4 : w.heap.size + 1 < w4.heap.size := by have := hb4.size; omega
  have s4' : w.heap.size < w4.heap.size := by omega
  go_wp2
  go_ret
  exact ⟨ret_bool (by first | rfl | (simp; omega)), by (repeat (first | with_reducible exact Below.refl _ _ | with_reducible assumption | with_reducible refine below_drewN ?_ _ | with_reducible refine Below.alloc ?_ (by first | exact Nat.le_refl _ | (simp; done) | (simp; omega) | omega) _ | with_reducible refine Below.setCell ?_ (by first | exact Nat.le_refl _ | (simp; done) | (simp; omega) | omega) _ | with_reducible refine Below.trans ?_ (Below.mono (by with_reducible assumption) (by first | exact Nat.le_refl _ | (simp; done) | (simp; omega) | omega))))⟩

theorem farL_any (a b c x y z : Int) (w : World) (ha : in64 a) (hb : in64 b) (hc : in64 c) (hx : in64 x) (hy : in64 y) (hz : in64 z) :
    Calls Try.prog 5 #[.agg #[.int .i64 a, .int .i64 b, .int .i64 c], .agg #[.int .i64 x, .int .i64 y, .int .i64 z]] w fun e w' => e = .returned (.bool true) ∧ Below w.heap.size w w' := by
  have F := fun W => far_any a b c x y z W ha hb hc hx hy hz
  have F2 := fun W => far_any x y z a b c W hx hy hz ha hb hc
  have G := fun W => refFar_any a b c x y z W ha hb hc hx hy hz
  rw [farTo_comm x y z a b c] at F2
  by_cases q : eqB a b c x y z = true
  · rw [(farTo_zero a b c x y z).2 q] at F F2 G
    exact farL_eq a b c x y z w F F2 G q
  · have h0 := (farTo_nonneg a b c x y z 3).1
    have h1 : farTo a b c x y z 3 ≠ 0 := fun h => q ((farTo_zero a b c x y z).1 h)
    exact farL_ne a b c x y z (farTo a b c x y z 3) w (by omega) (by simpa using h1) F F2 G (by simpa using q)
end Go.Proofs.Ytppkbnajpeoaaaa
