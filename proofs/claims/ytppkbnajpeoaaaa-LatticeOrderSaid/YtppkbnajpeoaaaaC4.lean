/- LatticeOrder: the cases of the law put together. -/
import Derived.Test.YtppkbnajpeoaaaaC3
namespace Go.Proofs.Ytppkbnajpeoaaaa
open Go.RowKit

theorem step_co (s a x : Int) (h1 : 1 ≤ s) (h2 : s ≤ 1048576) (a1 : -1099511627776 ≤ a) (a2 : a ≤ 1099511627776) (h : coOk s a x = true) :
    snapX s (x + s - a) = snapX s (x - a) + 1 ∧ coOk s a (x + s) = inB 1048576 (snapX s (x - a) + 1) := by
  obtain ⟨u, t, hu, ht, o, p, hx, n1, n2⟩ := near_of s a x h1 h2 h
  have e : snapX s (x + s - a) = snapX s (x - a) + 1 := by
    rw [show x + s - a = x - a + s by omega, snapX_step s _ h1]
  refine ⟨e, ?_⟩
  unfold coOk
  rw [e]
  have : inB 4611686018427387904 (x + s) = true := by simp [inB]; omega
  rw [this, Bool.true_and]
theorem co_bd (s a x : Int) (h1 : 1 ≤ s) (h2 : s ≤ 1048576) (h : coOk s a x = true) : (-4611686018427387904 ≤ x ∧ x ≤ 4611686018427387904) ∧ (-1048576 ≤ snapX s (x - a) ∧ snapX s (x - a) ≤ 1048576) := by
  obtain ⟨u, t, rfl, ht, o, p, hx, n1, n2⟩ := near_of s a x h1 h2 h
  exact ⟨hx, o⟩
theorem order_any (s a b c x y z u v t : Int) (w : World) :
    Calls Try.prog 4 #[.agg #[.int .i64 s, .int .i64 a, .int .i64 b, .int .i64 c], .agg #[.int .i64 x, .int .i64 y, .int .i64 z], .agg #[.int .i64 u, .int .i64 v, .int .i64 t]] w fun e w' => e = .returned (.bool true) ∧ Below w.heap.size w w' := by
  by_cases h : rightB s a b c = true
  · by_cases ho : snapOk s a b c x y z = true
    · have R := RightOf.of h
      have hk := ho
      simp only [snapOk, Bool.and_eq_true] at hk
      obtain ⟨⟨k1, k2⟩, k3⟩ := hk
      have c1 := step_co s a x R.s1 R.s2 R.a1 R.a2 k1
      have c2 := step_co s b y R.s1 R.s2 R.b1 R.b2 k2
      have c3 := step_co s c z R.s1 R.s2 R.c1 R.c2 k3
      have b1 := co_bd s a x R.s1 R.s2 k1
      have b2 := co_bd s b y R.s1 R.s2 k2
      have b3 := co_bd s c z R.s1 R.s2 k3
      have hs : snapOk s a b c (x + s) (y + s) (z + s) = onPt (snapX s (x - a) + 1) (snapX s (y - b) + 1) (snapX s (z - c) + 1) := by
        simp only [snapOk, onPt, c1.2, c2.2, c3.2]
      have S := fun W => snap_yes s a b c x y z W h ho
      by_cases hw : onPt (snapX s (x - a) + 1) (snapX s (y - b) + 1) (snapX s (z - c) + 1) = true
      · have SC := fun W => snap_yes s a b c (x + s) (y + s) (z + s) W h (by rw [hs, hw])
        rw [c1.1, c2.1, c3.1] at SC
        have ON := fun W => refOn_any (snapX s (x - a) + 1) (snapX s (y - b) + 1) (snapX s (z - c) + 1) W
        rw [hw] at ON
        by_cases hb : snapOk s a b c u v t = true
        · exact order_bok_on s a b c x y z u v t _ _ _ _ _ _ w R.s1 R.s2 b1.1.1 b1.1.2 b2.1.1 b2.1.2 b3.1.1 b3.1.2 b1.2.1 b1.2.2 b2.2.1 b2.2.2 b3.2.1 b3.2.2
            (ord_of s a x u R.s1) (ord_of s b y v R.s1) (ord_of s c z t R.s1) S (fun W => snap_yes s a b c u v t W h hb) SC ON
        · exact order_bout_on s a b c x y z u v t _ _ _ w R.s1 R.s2 b1.1.1 b1.1.2 b2.1.1 b2.1.2 b3.1.1 b3.1.2 b1.2.1 b1.2.2 b2.2.1 b2.2.2 b3.2.1 b3.2.2
            S (fun W => snap_out s a b c u v t W h (by simpa using hb)) SC ON
      · have hw : onPt (snapX s (x - a) + 1) (snapX s (y - b) + 1) (snapX s (z - c) + 1) = false := by simpa using hw
        have SC := fun W => snap_out s a b c (x + s) (y + s) (z + s) W h (by rw [hs, hw])
        have ON := fun W => refOn_any (snapX s (x - a) + 1) (snapX s (y - b) + 1) (snapX s (z - c) + 1) W
        rw [hw] at ON
        by_cases hb : snapOk s a b c u v t = true
        · exact order_bok_off s a b c x y z u v t _ _ _ _ _ _ w R.s1 R.s2 b1.1.1 b1.1.2 b2.1.1 b2.1.2 b3.1.1 b3.1.2 b1.2.1 b1.2.2 b2.2.1 b2.2.2 b3.2.1 b3.2.2
            (ord_of s a x u R.s1) (ord_of s b y v R.s1) (ord_of s c z t R.s1) S (fun W => snap_yes s a b c u v t W h hb) SC ON
        · exact order_bout_off s a b c x y z u v t _ _ _ w R.s1 R.s2 b1.1.1 b1.1.2 b2.1.1 b2.1.2 b3.1.1 b3.1.2 b1.2.1 b1.2.2 b2.2.1 b2.2.2 b3.2.1 b3.2.2
            S (fun W => snap_out s a b c u v t W h (by simpa using hb)) SC ON
    · have ho : snapOk s a b c x y z = false := by simpa using ho
      by_cases hb : snapOk s a b c u v t = true
      · exact order_not s a b c x y z u v t 2 0 _ _ _ w (by decide) (fun W => snap_out s a b c x y z W h ho) (fun W => snap_yes s a b c u v t W h hb)
      · exact order_not s a b c x y z u v t 2 2 0 0 0 w (by decide) (fun W => snap_out s a b c x y z W h ho) (fun W => snap_out s a b c u v t W h (by simpa using hb))
  · have h : rightB s a b c = false := by simpa using h
    exact order_not s a b c x y z u v t 1 1 0 0 0 w (by decide) (fun W => snap_bad s a b c x y z W h) (fun W => snap_bad s a b c u v t W h)
end Go.Proofs.Ytppkbnajpeoaaaa
