/- Snap and Real: walks. -/
import Derived.Test.YtppkbnajpeoaaaaA3
namespace Go.Proofs.Ytppkbnajpeoaaaa
open Go.RowKit

theorem co_any (k : Nat) (hk : k < 3) (rb lb : Nat) (r lo s : Int) (w : World)
    (hr : w.cell? ⟨rb, k, none⟩ = some (.int .i64 r)) (hl : w.cell? ⟨lb, 1 + k, none⟩ = some (.int .i64 lo)) (hs : w.cell? ⟨lb, 0, none⟩ = some (.int .i64 s))
    (h3 : inB 1099511627776 lo = true) (h5 : right0 s = true) :
    Calls Try.prog 24 #[.int .i64 (k : Int), .pointer (some ⟨rb, 0, none⟩), .pointer (some ⟨lb, 0, none⟩)] w fun e w' => e = .returned (.tuple #[.int .i64 (coX s lo r), .bool (coOk s lo r)]) ∧ ∃ n, w' = w.drewN n := by
  simp [inB] at h3
  simp [right0] at h5
  by_cases h : inB 4611686018427387904 r = true
  · have h' := h
    simp [inB] at h
    unfold coX coOk
    rw [h', if_pos rfl, Bool.true_and]
    exact snap1_in k hk rb lb r lo s w hr hl hs (by omega) (by omega) (by omega) (by omega) (by omega) (by omega)
  · have h' : inB 4611686018427387904 r = false := by simpa using h
    unfold coX coOk
    rw [h', if_neg (by simp), Bool.false_and]
    exact snap1_out k hk rb lb r lo s w hr hl hs h'

theorem bcell {W w1 : World} (hb : Below W.heap.size W w1) : (∀ b o, b < W.heap.size → w1.cell? ⟨b, o, none⟩ = W.cell? ⟨b, o, none⟩) ∧ (∀ b o, b < W.heap.size → w1.frozen? ⟨b, o, none⟩ = W.frozen? ⟨b, o, none⟩) :=
  ⟨fun b o h => hb.cell (p := ⟨b, o, none⟩) h, fun b o h => hb.frozen (p := ⟨b, o, none⟩) h⟩

def snapOk (s a b c x y z : Int) : Bool := coOk s a x && coOk s b y && coOk s c z








set_option maxHeartbeats 400000 in
theorem snap_bad (s a b c x y z : Int) (w : World) (h : rightB s a b c = false) :
    Calls Try.prog 12 #[lat s a b c, pt x y z] w fun e w' => e = .returned (.tuple #[pt 0 0 0, .int .i64 1]) ∧ Below w.heap.size w w' := by
  have R := fun W => right_any s a b c W
  rw [h] at R
  have R := Lib.hid R
  unfold lat pt
  unfold lat at R
  go_enter Try.func12, Try.ntmps12
  go_wp2_with (go_at_call 14; refine (R.out _).mono ?_)
  rintro e w' ⟨rfl, hb⟩
  obtain ⟨hc, hz⟩ := bcell hb
  go_wp2
  exact bodyPost_ret (v := .tuple #[pt 0 0 0, .int .i64 1]) (by unfold results; simp only [Try.results12, pt]; go_simp) rfl ⟨rfl, by (repeat (first | with_reducible exact Below.refl _ _ | with_reducible assumption | with_reducible refine below_drewN ?_ _ | with_reducible refine Below.alloc ?_ (by first | exact Nat.le_refl _ | (simp; done) | (simp; omega) | omega) _ | with_reducible refine Below.setCell ?_ (by first | exact Nat.le_refl _ | (simp; done) | (simp; omega) | omega) _ | with_reducible refine Below.trans ?_ (Below.mono (by with_reducible assumption) (by first | exact Nat.le_refl _ | (simp; done) | (simp; omega) | omega))))⟩

set_option maxHeartbeats 400000 in
theorem snap_out (s a b c x y z : Int) (w : World) (h : rightB s a b c = true) (ho : snapOk s a b c x y z = false) :
    Calls Try.prog 12 #[lat s a b c, pt x y z] w fun e w' => e = .returned (.tuple #[pt 0 0 0, .int .i64 2]) ∧ Below w.heap.size w w' := by
  have R := fun W => right_any s a b c W
  rw [h] at R
  have R := Lib.hid R
  simp only [rightB, Bool.and_eq_true] at h
  obtain ⟨⟨⟨⟨h1, h2⟩, h3⟩, h4⟩, h5⟩ := h
  have h6 : right0 s = true := by simp only [right0, Bool.and_eq_true]; exact ⟨h1, h2⟩
  unfold lat pt
  unfold lat at R
  go_enter Try.func12, Try.ntmps12
  go_wp2_with (go_at_call 14; refine (R.out _).mono ?_)
  rintro e w' ⟨rfl, hb⟩
  obtain ⟨hc, hz⟩ := bcell hb
  have CO : Hid (∀ k : Nat, k < 3 → ∀ W, Below w'.heap.size w' W → Calls Try.prog 24 #[.int .i64 (k : Int), .pointer (some ⟨w.heap.size + 1, 0, none⟩), .pointer (some ⟨w.heap.size, 0, none⟩)] W fun e w' => e = .returned (.tuple #[.int .i64 (coX s (nth a b c k) (nth x y z k)), .bool (coOk s (nth a b c k) (nth x y z k))]) ∧ ∃ n, w' = W.drewN n) := by
    intro k hk W hW
    have sz : w.heap.size + 1 + 1 < w'.heap.size := by have := hb.size; simp at this; omega
    refine co_any k hk _ _ _ _ _ W ?_ ?_ ?_ ?_ h6
    · rw [hW.cell (by simp; omega), hb.cell (by first | exact Nat.le_refl _ | (simp; done) | (simp; omega) | omega)]
      rcases (show k = 0 ∨ k = 1 ∨ k = 2 by omega) with rfl | rfl | rfl <;> simp [nth, go_sem]
    · rw [hW.cell (by simp; omega), hb.cell (by first | exact Nat.le_refl _ | (simp; done) | (simp; omega) | omega)]
      rcases (show k = 0 ∨ k = 1 ∨ k = 2 by omega) with rfl | rfl | rfl <;> simp [nth, go_sem]
    · rw [hW.cell (by simp; omega), hb.cell (by first | exact Nat.le_refl _ | (simp; done) | (simp; omega) | omega)]
      simp [go_sem]
    · rcases (show k = 0 ∨ k = 1 ∨ k = 2 by omega) with rfl | rfl | rfl <;> simp [nth, h3, h4, h5]
  have sz : w.heap.size + 1 + 1 < w'.heap.size := by have := hb.size; simp at this; omega
  go_wp2_with fail
  refine (each_no24 _ _ _ _ _ CO.out (by simpa [snapOk, nth] using ho)).mono ?_
  rintro e w2 ⟨rfl, hb2⟩
  obtain ⟨hc2, hz2⟩ := bcell hb2
  have sz2 : w.heap.size + 1 + 1 < w2.heap.size := by have := hb2.size; omega
  unfold pt
  go_wp2
  exact bodyPost_ret (v := .tuple #[pt 0 0 0, .int .i64 2]) (by unfold results; simp only [Try.results12, pt]; go_simp) rfl ⟨rfl, by (repeat (first | with_reducible exact Below.refl _ _ | with_reducible assumption | with_reducible refine below_drewN ?_ _ | with_reducible refine Below.alloc ?_ (by first | exact Nat.le_refl _ | (simp; done) | (simp; omega) | omega) _ | with_reducible refine Below.setCell ?_ (by first | exact Nat.le_refl _ | (simp; done) | (simp; omega) | omega) _ | with_reducible refine Below.trans ?_ (Below.mono (by with_reducible assumption) (by first | exact Nat.le_refl _ | (simp; done) | (simp; omega) | omega))))⟩
set_option maxHeartbeats 400000 in
theorem snap_yes (s a b c x y z : Int) (w : World) (h : rightB s a b c = true) (ho : snapOk s a b c x y z = true) :
    Calls Try.prog 12 #[lat s a b c, pt x y z] w fun e w' => e = .returned (.tuple #[pt (snapX s (x - a)) (snapX s (y - b)) (snapX s (z - c)), .int .i64 0]) ∧ Below w.heap.size w w' := by
  have R := fun W => right_any s a b c W
  rw [h] at R
  have R := Lib.hid R
  simp only [rightB, Bool.and_eq_true] at h
  obtain ⟨⟨⟨⟨h1, h2⟩, h3⟩, h4⟩, h5⟩ := h
  have h6 : right0 s = true := by simp only [right0, Bool.and_eq_true]; exact ⟨h1, h2⟩
  unfold lat pt
  unfold lat at R
  go_enter Try.func12, Try.ntmps12
  go_wp2_with (go_at_call 14; refine (R.out _).mono ?_)
  rintro e w' ⟨rfl, hb⟩
  obtain ⟨hc, hz⟩ := bcell hb
  have CO : Hid (∀ k : Nat, k < 3 → ∀ W, Below w'.heap.size w' W → Calls Try.prog 24 #[.int .i64 (k : Int), .pointer (some ⟨w.heap.size + 1, 0, none⟩), .pointer (some ⟨w.heap.size, 0, none⟩)] W fun e w' => e = .returned (.tuple #[.int .i64 (snapX s (nth x y z k - nth a b c k)), .bool true]) ∧ ∃ n, w' = W.drewN n) := by
    intro k hk W hW
    have sz : w.heap.size + 1 + 1 < w'.heap.size := by have := hb.size; simp at this; omega
    have e1 : coOk s (nth a b c k) (nth x y z k) = true := by
      simp only [snapOk, Bool.and_eq_true] at ho
      rcases (show k = 0 ∨ k = 1 ∨ k = 2 by omega) with rfl | rfl | rfl <;> simp [nth, ho]
    have e2 : coX s (nth a b c k) (nth x y z k) = snapX s (nth x y z k - nth a b c k) := by
      simp only [coOk, Bool.and_eq_true] at e1
      simp [coX, e1]
    rw [← e2, ← e1]
    refine co_any k hk _ _ _ _ _ W ?_ ?_ ?_ ?_ h6
    · rw [hW.cell (by simp; omega), hb.cell (by first | exact Nat.le_refl _ | (simp; done) | (simp; omega) | omega)]
      rcases (show k = 0 ∨ k = 1 ∨ k = 2 by omega) with rfl | rfl | rfl <;> simp [nth, go_sem]
    · rw [hW.cell (by simp; omega), hb.cell (by first | exact Nat.le_refl _ | (simp; done) | (simp; omega) | omega)]
      rcases (show k = 0 ∨ k = 1 ∨ k = 2 by omega) with rfl | rfl | rfl <;> simp [nth, go_sem]
    · rw [hW.cell (by simp; omega), hb.cell (by first | exact Nat.le_refl _ | (simp; done) | (simp; omega) | omega)]
      simp [go_sem]
    · rcases (show k = 0 ∨ k = 1 ∨ k = 2 by omega) with rfl | rfl | rfl <;> simp [nth, h3, h4, h5]
  have sz : w.heap.size + 1 + 1 < w'.heap.size := by have := hb.size; simp at this; omega
  go_wp2_with fail
  refine (each_yes24 _ _ _ _ CO.out).mono ?_
  rintro e w2 ⟨rfl, hb2⟩
  obtain ⟨hc2, hz2⟩ := bcell hb2
  have sz2 : w.heap.size + 1 + 1 < w2.heap.size := by have := hb2.size; omega
  unfold pt
  go_wp2
  exact bodyPost_ret (v := .tuple #[pt (snapX s (x - a)) (snapX s (y - b)) (snapX s (z - c)), .int .i64 0]) (by unfold results; simp only [Try.results12, pt]; go_simp; simp [nth]) rfl ⟨rfl, by (repeat (first | with_reducible exact Below.refl _ _ | with_reducible assumption | with_reducible refine below_drewN ?_ _ | with_reducible refine Below.alloc ?_ (by first | exact Nat.le_refl _ | (simp; done) | (simp; omega) | omega) _ | with_reducible refine Below.setCell ?_ (by first | exact Nat.le_refl _ | (simp; done) | (simp; omega) | omega) _ | with_reducible refine Below.trans ?_ (Below.mono (by with_reducible assumption) (by first | exact Nat.le_refl _ | (simp; done) | (simp; omega) | omega))))⟩

theorem on_same (x : Int) (w : World) :
    Calls Try.prog 25 #[.int .i64 x] w fun e w' => e = .returned (.bool (inB 1048576 x)) ∧ w' = w :=
  (on_any x w).mono fun _ _ ⟨he, hw⟩ => ⟨he, hw.symm⟩

set_option maxHeartbeats 400000 in
theorem real1_any (k : Nat) (hk : k < 3) (rb lb : Nat) (r lo s : Int) (w : World)
    (hr : w.cell? ⟨rb, k, none⟩ = some (.int .i64 r)) (hl : w.cell? ⟨lb, 1 + k, none⟩ = some (.int .i64 lo)) (hs : w.cell? ⟨lb, 0, none⟩ = some (.int .i64 s)) :
    Calls Try.prog 26 #[.int .i64 (k : Int), .pointer (some ⟨lb, 0, none⟩), .pointer (some ⟨rb, 0, none⟩)] w fun e w' => e = .returned (.tuple #[.int .i64 (wrap64 (lo + wrap64 (s * r))), .bool (inB 1048576 r)]) ∧ ∃ n, w' = w.drewN n := by
  go_enter Try.func26, Try.ntmps26
  go_wp2
  go_quiet ((go_at_call 25; exact Calls.quiet_of_same (on_same _ _)))
  go_wp2
  go_ret2
  exact ⟨rfl, _, rfl⟩
end Go.Proofs.Ytppkbnajpeoaaaa
