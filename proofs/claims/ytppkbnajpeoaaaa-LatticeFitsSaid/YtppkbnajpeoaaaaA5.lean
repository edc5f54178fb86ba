/- Real; the reference's Right, On: walks. -/
import Derived.Test.YtppkbnajpeoaaaaA4
namespace Go.Proofs.Ytppkbnajpeoaaaa
open Go.RowKit

theorem ret_bool {a b : Bool} (h : a = b) : Ending.returned (.bool a) = .returned (.bool b) := by rw [h]
def onPt (x y z : Int) : Bool := inB 1048576 x && inB 1048576 y && inB 1048576 z

set_option maxHeartbeats 400000 in
theorem real_bad (s a b c x y z : Int) (w : World) (h : rightB s a b c = false) :
    Calls Try.prog 19 #[lat s a b c, pt x y z] w fun e w' => e = .returned (.tuple #[pt 0 0 0, .int .i64 1]) ∧ Below w.heap.size w w' := by
  have R := fun W => right_any s a b c W
  rw [h] at R
  have R := Lib.hid R
  unfold lat pt
  unfold lat at R
  go_enter Try.func19, Try.ntmps19
  go_wp2_with (go_at_call 14; refine (R.out _).mono ?_)
  rintro e w' ⟨rfl, hb⟩
  obtain ⟨hc, hz⟩ := bcell hb
  go_wp2
  exact bodyPost_ret (v := .tuple #[pt 0 0 0, .int .i64 1]) (by unfold results; simp only [Try.results19, pt]; go_simp) rfl ⟨rfl, by (repeat (first | with_reducible exact Below.refl _ _ | with_reducible assumption | with_reducible refine below_drewN ?_ _ | with_reducible refine Below.alloc ?_ (by first | exact Nat.le_refl _ | (simp; done) | (simp; omega) | omega) _ | with_reducible refine Below.setCell ?_ (by first | exact Nat.le_refl _ | (simp; done) | (simp; omega) | omega) _ | with_reducible refine Below.trans ?_ (Below.mono (by with_reducible assumption) (by first | exact Nat.le_refl _ | (simp; done) | (simp; omega) | omega))))⟩

set_option maxHeartbeats 400000 in
theorem real_out (s a b c x y z : Int) (w : World) (h : rightB s a b c = true) (ho : onPt x y z = false) :
    Calls Try.prog 19 #[lat s a b c, pt x y z] w fun e w' => e = .returned (.tuple #[pt 0 0 0, .int .i64 2]) ∧ Below w.heap.size w w' := by
  have R := fun W => right_any s a b c W
  rw [h] at R
  have R := Lib.hid R
  clear h
  unfold lat pt
  unfold lat at R
  go_enter Try.func19, Try.ntmps19
  go_wp2_with (go_at_call 14; refine (R.out _).mono ?_)
  rintro e w' ⟨rfl, hb⟩
  obtain ⟨hc, hz⟩ := bcell hb
  have sz : w.heap.size + 1 + 1 < w'.heap.size := by have := hb.size; simp at this; omega
  have CO : Hid (∀ k : Nat, k < 3 → ∀ W, Below w'.heap.size w' W → Calls Try.prog 26 #[.int .i64 (k : Int), .pointer (some ⟨w.heap.size, 0, none⟩), .pointer (some ⟨w.heap.size + 1, 0, none⟩)] W fun e w' => e = .returned (.tuple #[.int .i64 (wrap64 (nth a b c k + wrap64 (s * nth x y z k))), .bool (inB 1048576 (nth x y z k))]) ∧ ∃ n, w' = W.drewN n) := by
    intro k hk W hW
    refine real1_any k hk _ _ _ _ _ W ?_ ?_ ?_
    · rw [hW.cell (by first | exact Nat.le_refl _ | (simp; done) | (simp; omega) | omega), hb.cell (by first | exact Nat.le_refl _ | (simp; done) | (simp; omega) | omega)]
      rcases (show k = 0 ∨ k = 1 ∨ k = 2 by omega) with rfl | rfl | rfl <;> simp [nth, go_sem]
    · rw [hW.cell (by first | exact Nat.le_refl _ | (simp; done) | (simp; omega) | omega), hb.cell (by first | exact Nat.le_refl _ | (simp; done) | (simp; omega) | omega)]
      rcases (show k = 0 ∨ k = 1 ∨ k = 2 by omega) with rfl | rfl | rfl <;> simp [nth, go_sem]
    · rw [hW.cell (by first | exact Nat.le_refl _ | (simp; done) | (simp; omega) | omega), hb.cell (by first | exact Nat.le_refl _ | (simp; done) | (simp; omega) | omega)]
      simp [go_sem]
  go_wp2_with fail
  refine (each_no26 _ _ _ _ _ CO.out (by simpa [onPt, nth] using ho)).mono ?_
  rintro e w2 ⟨rfl, hb2⟩
  obtain ⟨hc2, hz2⟩ := bcell hb2
  have sz2 : w.heap.size + 1 + 1 < w2.heap.size := by have := hb2.size; omega
  unfold pt
  go_wp2
  exact bodyPost_ret (v := .tuple #[pt 0 0 0, .int .i64 2]) (by unfold results; simp only [Try.results19, pt]; go_simp) rfl ⟨rfl, by (repeat (first | with_reducible exact Below.refl _ _ | with_reducible assumption | with_reducible refine below_drewN ?_ _ | with_reducible refine Below.alloc ?_ (by first | exact Nat.le_refl _ | (simp; done) | (simp; omega) | omega) _ | with_reducible refine Below.setCell ?_ (by first | exact Nat.le_refl _ | (simp; done) | (simp; omega) | omega) _ | with_reducible refine Below.trans ?_ (Below.mono (by with_reducible assumption) (by first | exact Nat.le_refl _ | (simp; done) | (simp; omega) | omega))))⟩

set_option maxHeartbeats 400000 in
theorem real_yes (s a b c x y z : Int) (w : World) (h : rightB s a b c = true) (ho : onPt x y z = true) :
    Calls Try.prog 19 #[lat s a b c, pt x y z] w fun e w' => e = .returned (.tuple #[pt (wrap64 (a + wrap64 (s * x))) (wrap64 (b + wrap64 (s * y))) (wrap64 (c + wrap64 (s * z))), .int .i64 0]) ∧ Below w.heap.size w w' := by
  have R := fun W => right_any s a b c W
  rw [h] at R
  have R := Lib.hid R
  clear h
  unfold lat pt
  unfold lat at R
  go_enter Try.func19, Try.ntmps19
  go_wp2_with (go_at_call 14; refine (R.out _).mono ?_)
  rintro e w' ⟨rfl, hb⟩
  obtain ⟨hc, hz⟩ := bcell hb
  have sz : w.heap.size + 1 + 1 < w'.heap.size := by have := hb.size; simp at this; omega
  have CO : Hid (∀ k : Nat, k < 3 → ∀ W, Below w'.heap.size w' W → Calls Try.prog 26 #[.int .i64 (k : Int), .pointer (some ⟨w.heap.size, 0, none⟩), .pointer (some ⟨w.heap.size + 1, 0, none⟩)] W fun e w' => e = .returned (.tuple #[.int .i64 (wrap64 (nth a b c k + wrap64 (s * nth x y z k))), .bool true]) ∧ ∃ n, w' = W.drewN n) := by
    intro k hk W hW
    have e1 : inB 1048576 (nth x y z k) = true := by
      simp only [onPt, Bool.and_eq_true] at ho
      rcases (show k = 0 ∨ k = 1 ∨ k = 2 by omega) with rfl | rfl | rfl <;> simp [nth, ho]
    rw [← e1]
    refine real1_any k hk _ _ _ _ _ W ?_ ?_ ?_
    · rw [hW.cell (by first | exact Nat.le_refl _ | (simp; done) | (simp; omega) | omega), hb.cell (by first | exact Nat.le_refl _ | (simp; done) | (simp; omega) | omega)]
      rcases (show k = 0 ∨ k = 1 ∨ k = 2 by omega) with rfl | rfl | rfl <;> simp [nth, go_sem]
    · rw [hW.cell (by first | exact Nat.le_refl _ | (simp; done) | (simp; omega) | omega), hb.cell (by first | exact Nat.le_refl _ | (simp; done) | (simp; omega) | omega)]
      rcases (show k = 0 ∨ k = 1 ∨ k = 2 by omega) with rfl | rfl | rfl <;> simp [nth, go_sem]
    · rw [hW.cell (by first | exact Nat.le_refl _ | (simp; done) | (simp; omega) | omega), hb.cell (by first | exact Nat.le_refl _ | (simp; done) | (simp; omega) | omega)]
      simp [go_sem]
  go_wp2_with fail
  refine (each_yes26 _ _ _ _ CO.out).mono ?_
  rintro e w2 ⟨rfl, hb2⟩
  obtain ⟨hc2, hz2⟩ := bcell hb2
  have sz2 : w.heap.size + 1 + 1 < w2.heap.size := by have := hb2.size; omega
  unfold pt
  go_wp2
  exact bodyPost_ret (v := .tuple #[pt (wrap64 (a + wrap64 (s * x))) (wrap64 (b + wrap64 (s * y))) (wrap64 (c + wrap64 (s * z))), .int .i64 0]) (by unfold results; simp only [Try.results19, pt]; go_simp; simp [nth]) rfl ⟨rfl, by (repeat (first | with_reducible exact Below.refl _ _ | with_reducible assumption | with_reducible refine below_drewN ?_ _ | with_reducible refine Below.alloc ?_ (by first | exact Nat.le_refl _ | (simp; done) | (simp; omega) | omega) _ | with_reducible refine Below.setCell ?_ (by first | exact Nat.le_refl _ | (simp; done) | (simp; omega) | omega) _ | with_reducible refine Below.trans ?_ (Below.mono (by with_reducible assumption) (by first | exact Nat.le_refl _ | (simp; done) | (simp; omega) | omega))))⟩

theorem rightB_ways (s a b c : Int) :
    ((a < -1099511627776 ∨ (-1099511627776 ≤ a ∧ 1099511627776 < a)) ∧ rightB s a b c = false) ∨
    ((-1099511627776 ≤ a ∧ a ≤ 1099511627776) ∧ (b < -1099511627776 ∨ (-1099511627776 ≤ b ∧ 1099511627776 < b)) ∧ rightB s a b c = false) ∨
    ((-1099511627776 ≤ a ∧ a ≤ 1099511627776) ∧ (-1099511627776 ≤ b ∧ b ≤ 1099511627776) ∧ (c < -1099511627776 ∨ (-1099511627776 ≤ c ∧ 1099511627776 < c)) ∧ rightB s a b c = false) ∨
    ((-1099511627776 ≤ a ∧ a ≤ 1099511627776) ∧ (-1099511627776 ≤ b ∧ b ≤ 1099511627776) ∧ (-1099511627776 ≤ c ∧ c ≤ 1099511627776) ∧
      ((s < 1 ∧ rightB s a b c = false) ∨ ((1 ≤ s ∧ 1048576 < s) ∧ rightB s a b c = false) ∨ ((1 ≤ s ∧ s ≤ 1048576) ∧ rightB s a b c = true))) := by
  have h : rightB s a b c = true ↔ (1 ≤ s ∧ s ≤ 1048576) ∧ (-1099511627776 ≤ a ∧ a ≤ 1099511627776) ∧ (-1099511627776 ≤ b ∧ b ≤ 1099511627776) ∧ (-1099511627776 ≤ c ∧ c ≤ 1099511627776) := by
    simp [rightB, inB, and_assoc]
  have h' : rightB s a b c = false ↔ ¬ ((1 ≤ s ∧ s ≤ 1048576) ∧ (-1099511627776 ≤ a ∧ a ≤ 1099511627776) ∧ (-1099511627776 ≤ b ∧ b ≤ 1099511627776) ∧ (-1099511627776 ≤ c ∧ c ≤ 1099511627776)) := by
    rw [← h]; simp
  rw [h, h']
  omega
theorem onPt_ways (a b c : Int) :
    ((a < -1048576 ∨ (-1048576 ≤ a ∧ 1048576 < a)) ∧ onPt a b c = false) ∨
    ((-1048576 ≤ a ∧ a ≤ 1048576) ∧ (b < -1048576 ∨ (-1048576 ≤ b ∧ 1048576 < b)) ∧ onPt a b c = false) ∨
    ((-1048576 ≤ a ∧ a ≤ 1048576) ∧ (-1048576 ≤ b ∧ b ≤ 1048576) ∧ (c < -1048576 ∨ (-1048576 ≤ c ∧ 1048576 < c)) ∧ onPt a b c = false) ∨
    ((-1048576 ≤ a ∧ a ≤ 1048576) ∧ (-1048576 ≤ b ∧ b ≤ 1048576) ∧ (-1048576 ≤ c ∧ c ≤ 1048576) ∧ onPt a b c = true) := by
  have h : onPt a b c = true ↔ (-1048576 ≤ a ∧ a ≤ 1048576) ∧ (-1048576 ≤ b ∧ b ≤ 1048576) ∧ (-1048576 ≤ c ∧ c ≤ 1048576) := by
    simp [onPt, inB, and_assoc]
  have h' : onPt a b c = false ↔ ¬ ((-1048576 ≤ a ∧ a ≤ 1048576) ∧ (-1048576 ≤ b ∧ b ≤ 1048576) ∧ (-1048576 ≤ c ∧ c ≤ 1048576)) := by
    rw [← h]; simp
  rw [h, h']
  omega

set_option maxHeartbeats 1000000 in
theorem refRight_any (s a b c : Int) (w : World) :
    Calls Try.prog 13 #[.int .i64 s, pt a b c] w fun e w' => e = .returned (.bool (rightB s a b c)) ∧ Below w.heap.size w w' := by
  unfold pt
  rcases rightB_ways s a b c with ⟨h1 | h1, h⟩ | ⟨h1, h2 | h2, h⟩ | ⟨h1, h2, h3 | h3, h⟩ | ⟨h1, h2, h3, ⟨h4, h⟩ | ⟨h4, h⟩ | ⟨h4, h⟩⟩
  all_goals
    rw [h]
    clear h
    go_enter Try.func13, Try.ntmps13
    go_wp2
    refine wp_loop_rounds 4 ?_
    iterate 4 (try (rw [rounds_succ]; go_wp2))
    go_ret
    exact ⟨ret_bool (by first | rfl | (simp; omega)), by (repeat (first | with_reducible exact Below.refl _ _ | with_reducible assumption | with_reducible refine below_drewN ?_ _ | with_reducible refine Below.alloc ?_ (by first | exact Nat.le_refl _ | (simp; done) | (simp; omega) | omega) _ | with_reducible refine Below.setCell ?_ (by first | exact Nat.le_refl _ | (simp; done) | (simp; omega) | omega) _ | with_reducible refine Below.trans ?_ (Below.mono (by with_reducible assumption) (by first | exact Nat.le_refl _ | (simp; done) | (simp; omega) | omega))))⟩

set_option maxHeartbeats 1000000 in
theorem refOn_any (a b c : Int) (w : World) :
    Calls Try.prog 16 #[pt a b c] w fun e w' => e = .returned (.bool (onPt a b c)) ∧ Below w.heap.size w w' := by
  unfold pt
  rcases onPt_ways a b c with ⟨h1 | h1, h⟩ | ⟨h1, h2 | h2, h⟩ | ⟨h1, h2, h3 | h3, h⟩ | ⟨h1, h2, h3, h⟩
  all_goals
    rw [h]
    clear h
    go_enter Try.func16, Try.ntmps16
    go_wp2
    refine wp_loop_rounds 4 ?_
    iterate 4 (try (rw [rounds_succ]; go_wp2))
    go_ret
    exact ⟨ret_bool (by first | rfl | (simp; omega)), by (repeat (first | with_reducible exact Below.refl _ _ | with_reducible assumption | with_reducible refine below_drewN ?_ _ | with_reducible refine Below.alloc ?_ (by first | exact Nat.le_refl _ | (simp; done) | (simp; omega) | omega) _ | with_reducible refine Below.setCell ?_ (by first | exact Nat.le_refl _ | (simp; done) | (simp; omega) | omega) _ | with_reducible refine Below.trans ?_ (Below.mono (by with_reducible assumption) (by first | exact Nat.le_refl _ | (simp; done) | (simp; omega) | omega))))⟩
end Go.Proofs.Ytppkbnajpeoaaaa
