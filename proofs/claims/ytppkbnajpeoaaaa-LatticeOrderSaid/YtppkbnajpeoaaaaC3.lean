/- LatticeOrder: the law's walk. -/
import Derived.Test.YtppkbnajpeoaaaaC2
import Derived.Test.YtppkbnajpeoaaaaB3
import Derived.BigRegion
import Derived.RegionTactic
namespace Go.Proofs.Ytppkbnajpeoaaaa
open Go.RowKit

set_option maxHeartbeats 4000000 in
theorem order_not (s a b c x y z u v t ea eb p q r : Int) (w : World) (hne : (ea == 0) = false) (S : Hid (∀ W, Calls Try.prog 12 #[.agg #[.int .i64 s, .int .i64 a, .int .i64 b, .int .i64 c], .agg #[.int .i64 x, .int .i64 y, .int .i64 z]] W fun e w' => e = .returned (.tuple #[.agg #[.int .i64 0, .int .i64 0, .int .i64 0], .int .i64 ea]) ∧ Below W.heap.size W w')) (S2 : Hid (∀ W, Calls Try.prog 12 #[.agg #[.int .i64 s, .int .i64 a, .int .i64 b, .int .i64 c], .agg #[.int .i64 u, .int .i64 v, .int .i64 t]] W fun e w' => e = .returned (.tuple #[.agg #[.int .i64 p, .int .i64 q, .int .i64 r], .int .i64 eb]) ∧ Below W.heap.size W w')) :
    Calls Try.prog 4 #[.agg #[.int .i64 s, .int .i64 a, .int .i64 b, .int .i64 c], .agg #[.int .i64 x, .int .i64 y, .int .i64 z], .agg #[.int .i64 u, .int .i64 v, .int .i64 t]] w fun e w' => e = .returned (.bool true) ∧ Below w.heap.size w w' := by
  have hne2 : (ea != 0) = true := by simpa using hne
  go_enter Try.func4, Try.ntmps4
  go_wp2_with fail
  refine (awake_any _).mono ?_
  rintro e w1 ⟨rfl, hb1⟩
  obtain ⟨hc1, hz1⟩ := bcell hb1
  have s1 : w.heap.size + 1 + 1 < w1.heap.size := by have := hb1.size; simp at this; omega
  have s1' : w.heap.size + 1 < w1.heap.size := by omega
  have s1'' : w.heap.size < w1.heap.size := by omega
  go_wp2_with fail
  refine (S.out _).mono ?_
  rintro e w2 ⟨rfl, hb2⟩
  obtain ⟨hc2, hz2⟩ := bcell hb2
  have z2_0 : w.heap.size < w2.heap.size := by have := hb2.size; (first | omega | (simp at this; omega))
  have z2_1 : w.heap.size + 1 < w2.heap.size := by have := hb2.size; (first | omega | (simp at this; omega))
  have z2_2 : w.heap.size + 1 + 1 < w2.heap.size := by have := hb2.size; (first | omega | (simp at this; omega))
  go_wp2_with fail
  refine (S2.out _).mono ?_
  rintro e w3 ⟨rfl, hb3⟩
  obtain ⟨hc3, hz3⟩ := bcell hb3
  have z3_0 : w.heap.size < w3.heap.size := by have := hb3.size; (first | omega | (simp at this; omega))
  have z3_1 : w.heap.size + 1 < w3.heap.size := by have := hb3.size; (first | omega | (simp at this; omega))
  have z3_2 : w.heap.size + 1 + 1 < w3.heap.size := by have := hb3.size; (first | omega | (simp at this; omega))
  have z3_3 : w2.heap.size < w3.heap.size := by have := hb3.size; (first | omega | (simp at this; omega))
  go_wp2
  go_ret
  exact ⟨rfl, by (repeat (first | with_reducible exact Below.refl _ _ | with_reducible assumption | with_reducible refine below_drewN ?_ _ | with_reducible refine Below.drew ?_ | with_reducible refine Below.alloc ?_ (by first | exact Nat.le_refl _ | (simp; done) | (simp; omega) | omega) _ | with_reducible refine Below.setCell ?_ (by first | exact Nat.le_refl _ | (simp; done) | (simp; omega) | omega) _ | with_reducible refine Below.trans ?_ (Below.mono (by with_reducible assumption) (by first | exact Nat.le_refl _ | (simp; done) | (simp; omega) | omega))))⟩

def ordOk (x u p q : Int) : Prop := (x < u ∧ p ≤ q) ∨ (u < x ∧ q ≤ p) ∨ (x = u ∧ p = q)
theorem ord_of (s a x u : Int) (hs : 1 ≤ s) : ordOk x u (snapX s (x - a)) (snapX s (u - a)) := by
  unfold ordOk
  rcases (show x < u ∨ u < x ∨ x = u by omega) with h | h | h
  · exact .inl ⟨h, snapX_mono s _ _ hs (by omega)⟩
  · exact .inr (.inl ⟨h, snapX_mono s _ _ hs (by omega)⟩)
  · exact .inr (.inr ⟨h, by rw [h]⟩)

structure OrdAt (s a b c x y z p1 p2 p3 : Int) (B B2 B3 : Nat) (w3 : World) (k : Nat) (wr : World) : Prop where
  bel : Below w3.heap.size w3 wr
  ll : Rw wr B [.int .i64 s, .int .i64 a, .int .i64 b, .int .i64 c]
  xx : Rw wr (B + 1) (i3 x y z)
  pp : Rw wr B2 (i3 p1 p2 p3)
  cc : Rw wr (B3 + 1) (ad3 k x y z s s s)
  nn : Rw wr (B3 + 1 + 1) (ad3 k p1 p2 p3 1 1 1)
def OrdRel (s a b c x y z p1 p2 p3 : Int) (B B2 B3 : Nat) (w3 : World) (i : Value) (wr : World) : Prop :=
  (i = .int .i64 0 ∧ OrdAt s a b c x y z p1 p2 p3 B B2 B3 w3 0 wr) ∨ (i = .int .i64 1 ∧ OrdAt s a b c x y z p1 p2 p3 B B2 B3 w3 1 wr) ∨ (i = .int .i64 2 ∧ OrdAt s a b c x y z p1 p2 p3 B B2 B3 w3 2 wr) ∨ (i = .int .i64 3 ∧ OrdAt s a b c x y z p1 p2 p3 B B2 B3 w3 3 wr)

set_option maxHeartbeats 4000000 in
theorem order_bout_on (s a b c x y z u v t p1 p2 p3 : Int) (w : World) (s1 : 1 ≤ s) (s2 : s ≤ 1048576) (x1 : -4611686018427387904 ≤ x) (x2 : x ≤ 4611686018427387904) (y1 : -4611686018427387904 ≤ y) (y2 : y ≤ 4611686018427387904) (z1 : -4611686018427387904 ≤ z) (z2 : z ≤ 4611686018427387904) (p11 : -1048576 ≤ p1) (p12 : p1 ≤ 1048576) (p21 : -1048576 ≤ p2) (p22 : p2 ≤ 1048576) (p31 : -1048576 ≤ p3) (p32 : p3 ≤ 1048576) (S : Hid (∀ W, Calls Try.prog 12 #[.agg #[.int .i64 s, .int .i64 a, .int .i64 b, .int .i64 c], .agg #[.int .i64 x, .int .i64 y, .int .i64 z]] W fun e w' => e = .returned (.tuple #[.agg #[.int .i64 p1, .int .i64 p2, .int .i64 p3], .int .i64 0]) ∧ Below W.heap.size W w')) (S2 : Hid (∀ W, Calls Try.prog 12 #[.agg #[.int .i64 s, .int .i64 a, .int .i64 b, .int .i64 c], .agg #[.int .i64 u, .int .i64 v, .int .i64 t]] W fun e w' => e = .returned (.tuple #[.agg #[.int .i64 0, .int .i64 0, .int .i64 0], .int .i64 2]) ∧ Below W.heap.size W w')) (SC : Hid (∀ W, Calls Try.prog 12 #[.agg #[.int .i64 s, .int .i64 a, .int .i64 b, .int .i64 c], .agg #[.int .i64 (x + s), .int .i64 (y + s), .int .i64 (z + s)]] W fun e w' => e = .returned (.tuple #[.agg #[.int .i64 (p1 + 1), .int .i64 (p2 + 1), .int .i64 (p3 + 1)], .int .i64 0]) ∧ Below W.heap.size W w')) (ON : Hid (∀ W, Calls Try.prog 16 #[.agg #[.int .i64 (p1 + 1), .int .i64 (p2 + 1), .int .i64 (p3 + 1)]] W fun e w' => e = .returned (.bool true) ∧ Below W.heap.size W w')) :
    Calls Try.prog 4 #[.agg #[.int .i64 s, .int .i64 a, .int .i64 b, .int .i64 c], .agg #[.int .i64 x, .int .i64 y, .int .i64 z], .agg #[.int .i64 u, .int .i64 v, .int .i64 t]] w fun e w' => e = .returned (.bool true) ∧ Below w.heap.size w w' := by
  have q0 : ∀ w, (Op.equalIn 10000 23 (.agg #[.int .i64 (p1 + 1), .int .i64 (p2 + 1), .int .i64 (p3 + 1)]) (.agg #[.int .i64 (p1 + 1), .int .i64 (p2 + 1), .int .i64 (p3 + 1)])).run Try.prog w = .ok true w := fun w => by have := eq23 (p1 + 1) (p2 + 1) (p3 + 1) (p1 + 1) (p2 + 1) (p3 + 1) w; rw [eqB_refl] at this; exact this
  go_enter Try.func4, Try.ntmps4
  go_wp2_with fail
  refine (awake_any _).mono ?_
  rintro e w1 ⟨rfl, hb1⟩
  obtain ⟨hc1, hz1⟩ := bcell hb1
  have s1 : w.heap.size + 1 + 1 < w1.heap.size := by have := hb1.size; simp at this; omega
  have s1' : w.heap.size + 1 < w1.heap.size := by omega
  have s1'' : w.heap.size < w1.heap.size := by omega
  go_wp2_with fail
  refine (S.out _).mono ?_
  rintro e w2 ⟨rfl, hb2⟩
  obtain ⟨hc2, hz2⟩ := bcell hb2
  have z2_0 : w.heap.size < w2.heap.size := by have := hb2.size; (first | omega | (simp at this; omega))
  have z2_1 : w.heap.size + 1 < w2.heap.size := by have := hb2.size; (first | omega | (simp at this; omega))
  have z2_2 : w.heap.size + 1 + 1 < w2.heap.size := by have := hb2.size; (first | omega | (simp at this; omega))
  go_wp2_with fail
  refine (S2.out _).mono ?_
  rintro e w3 ⟨rfl, hb3⟩
  obtain ⟨hc3, hz3⟩ := bcell hb3
  have z3_0 : w.heap.size < w3.heap.size := by have := hb3.size; (first | omega | (simp at this; omega))
  have z3_1 : w.heap.size + 1 < w3.heap.size := by have := hb3.size; (first | omega | (simp at this; omega))
  have z3_2 : w.heap.size + 1 + 1 < w3.heap.size := by have := hb3.size; (first | omega | (simp at this; omega))
  have z3_3 : w2.heap.size < w3.heap.size := by have := hb3.size; (first | omega | (simp at this; omega))
  have RL := ((Rw.new' (w := w) (t := 25) [.int .i64 s, .int .i64 a, .int .i64 b, .int .i64 c] rfl).alloc (.cells #[.int .i64 x, .int .i64 y, .int .i64 z] 22)).alloc (.cells #[.int .i64 u, .int .i64 v, .int .i64 t] 22)
  have RL := ((RL.below hb1 (by first | (simp; done) | (simp; omega) | omega)).below hb2 s1'').alloc (.cells #[.int .i64 p1, .int .i64 p2, .int .i64 p3] 23)
  have RL := RL.below hb3 (by first | (simp; done) | (simp; omega) | omega)
  have RX := (Rw.new' (w := w.alloc (.cells #[.int .i64 s, .int .i64 a, .int .i64 b, .int .i64 c] 25)) (t := 22) (b := w.heap.size + 1) (i3 x y z) (by first | (simp; done) | (simp; omega) | omega)).alloc (.cells #[.int .i64 u, .int .i64 v, .int .i64 t] 22)
  have RX := ((RX.below hb1 (by first | (simp; done) | (simp; omega) | omega)).below hb2 s1').alloc (.cells #[.int .i64 p1, .int .i64 p2, .int .i64 p3] 23)
  have RX := RX.below hb3 (by first | (simp; done) | (simp; omega) | omega)
  have RP := (Rw.new' (w := w2) (t := 23) (i3 p1 p2 p3) rfl).below hb3 (by first | (simp; done) | (simp; omega) | omega)
  have HW3 : Hid (Below w.heap.size w w3) := by
    show Below w.heap.size w w3
    (repeat (first | with_reducible exact Below.refl _ _ | with_reducible assumption | with_reducible refine below_drewN ?_ _ | with_reducible refine Below.drew ?_ | with_reducible refine Below.alloc ?_ (by first | exact Nat.le_refl _ | (simp; done) | (simp; omega) | omega) _ | with_reducible refine Below.setCell ?_ (by first | exact Nat.le_refl _ | (simp; done) | (simp; omega) | omega) _ | with_reducible refine Below.trans ?_ (Below.mono (by with_reducible assumption) (by first | exact Nat.le_refl _ | (simp; done) | (simp; omega) | omega))))
  have HRL := Lib.hid RL
  have HRX := Lib.hid RX
  have HRP := Lib.hid RP
  clear RL RX RP hb1 hb2 hb3 hc1 hz1 hc2 hz2 hc3 hz3
  go_wp2
  go_loopw [14] (fun i wr => OrdRel s a b c x y z p1 p2 p3 w.heap.size w2.heap.size w3.heap.size w3 i wr) (fun i _ => 3 - (intOf i).toNat)
  case atStart =>
    refine .inl ⟨rfl, by (repeat (first | with_reducible exact Below.refl _ _ | with_reducible assumption | with_reducible refine below_drewN ?_ _ | with_reducible refine Below.drew ?_ | with_reducible refine Below.alloc ?_ (by first | exact Nat.le_refl _ | (simp; done) | (simp; omega) | omega) _ | with_reducible refine Below.setCell ?_ (by first | exact Nat.le_refl _ | (simp; done) | (simp; omega) | omega) _ | with_reducible refine Below.trans ?_ (Below.mono (by with_reducible assumption) (by first | exact Nat.le_refl _ | (simp; done) | (simp; omega) | omega)))), ((HRL.out.alloc (.cells #[.int .i64 0, .int .i64 0, .int .i64 0] 23)).alloc _).alloc _, ((HRX.out.alloc (.cells #[.int .i64 0, .int .i64 0, .int .i64 0] 23)).alloc _).alloc _, ((HRP.out.alloc (.cells #[.int .i64 0, .int .i64 0, .int .i64 0] 23)).alloc _).alloc _, ?_, ?_⟩
    · exact (Rw.new' (i3 0 0 0) (by first | (simp; done) | (simp; omega) | omega)).alloc _
    · exact Rw.new' (i3 0 0 0) (by first | (simp; done) | (simp; omega) | omega)
  case round =>
    rcases hrel with ⟨rfl, hA⟩ | ⟨rfl, hA⟩ | ⟨rfl, hA⟩ | ⟨rfl, hA⟩
    · obtain ⟨hb, rl, rx, rp, rc, rn⟩ := hA
      have cx : wr.cell? ⟨w.heap.size + 1, 0, none⟩ = some (.int .i64 x) := rx.cell 0
      have cs : wr.cell? ⟨w.heap.size, 0, none⟩ = some (.int .i64 s) := rl.cell 0
      have cp : wr.cell? ⟨w2.heap.size, 0, none⟩ = some (.int .i64 p1) := rp.cell 0
      have cc : wr.cell? ⟨w3.heap.size + 1, 0, none⟩ = some (.int .i64 0) := rc.cell 0
      have fc : wr.frozen? ⟨w3.heap.size + 1, 0, none⟩ = false := rc.frozen 0
      have cn : wr.cell? ⟨w3.heap.size + 1 + 1, 0, none⟩ = some (.int .i64 0) := rn.cell 0
      have fn : wr.frozen? ⟨w3.heap.size + 1 + 1, 0, none⟩ = false := rn.frozen 0
      have HB := Lib.hid hb
      have HL := Lib.hid rl
      have HX := Lib.hid rx
      have HP := Lib.hid rp
      have HC := Lib.hid rc
      have HN := Lib.hid rn
      clear hb rl rx rp rc rn
      go_wp2
      go_region
      go_wp2
      refine ⟨.inr (.inl ⟨rfl, ?_⟩), by simp [intOf]⟩
      have hb := HB.out
      refine ⟨by (repeat (first | with_reducible exact Below.refl _ _ | with_reducible assumption | with_reducible refine below_drewN ?_ _ | with_reducible refine Below.drew ?_ | with_reducible refine Below.alloc ?_ (by first | exact Nat.le_refl _ | (simp; done) | (simp; omega) | omega) _ | with_reducible refine Below.setCell ?_ (by first | exact Nat.le_refl _ | (simp; done) | (simp; omega) | omega) _ | with_reducible refine Below.trans ?_ (Below.mono (by with_reducible assumption) (by first | exact Nat.le_refl _ | (simp; done) | (simp; omega) | omega)))), ((HL.out.far (by first | (simp; done) | (simp; omega) | omega) _).far (by first | (simp; done) | (simp; omega) | omega) _).drew, ((HX.out.far (by first | (simp; done) | (simp; omega) | omega) _).far (by first | (simp; done) | (simp; omega) | omega) _).drew, ((HP.out.far (by first | (simp; done) | (simp; omega) | omega) _).far (by first | (simp; done) | (simp; omega) | omega) _).drew, ?_, ?_⟩
      · exact ((HC.out.set 0 _).far (by first | (simp; done) | (simp; omega) | omega) _).drew
      · exact ((HN.out.far (by first | (simp; done) | (simp; omega) | omega) _).set 0 _).drew
    · obtain ⟨hb, rl, rx, rp, rc, rn⟩ := hA
      have cx : wr.cell? ⟨w.heap.size + 1, 1, none⟩ = some (.int .i64 y) := rx.cell 1
      have cs : wr.cell? ⟨w.heap.size, 0, none⟩ = some (.int .i64 s) := rl.cell 0
      have cp : wr.cell? ⟨w2.heap.size, 1, none⟩ = some (.int .i64 p2) := rp.cell 1
      have cc : wr.cell? ⟨w3.heap.size + 1, 1, none⟩ = some (.int .i64 0) := rc.cell 1
      have fc : wr.frozen? ⟨w3.heap.size + 1, 1, none⟩ = false := rc.frozen 1
      have cn : wr.cell? ⟨w3.heap.size + 1 + 1, 1, none⟩ = some (.int .i64 0) := rn.cell 1
      have fn : wr.frozen? ⟨w3.heap.size + 1 + 1, 1, none⟩ = false := rn.frozen 1
      have HB := Lib.hid hb
      have HL := Lib.hid rl
      have HX := Lib.hid rx
      have HP := Lib.hid rp
      have HC := Lib.hid rc
      have HN := Lib.hid rn
      clear hb rl rx rp rc rn
      go_wp2
      go_region
      go_wp2
      refine ⟨.inr (.inr (.inl ⟨rfl, ?_⟩)), by simp [intOf]⟩
      have hb := HB.out
      refine ⟨by (repeat (first | with_reducible exact Below.refl _ _ | with_reducible assumption | with_reducible refine below_drewN ?_ _ | with_reducible refine Below.drew ?_ | with_reducible refine Below.alloc ?_ (by first | exact Nat.le_refl _ | (simp; done) | (simp; omega) | omega) _ | with_reducible refine Below.setCell ?_ (by first | exact Nat.le_refl _ | (simp; done) | (simp; omega) | omega) _ | with_reducible refine Below.trans ?_ (Below.mono (by with_reducible assumption) (by first | exact Nat.le_refl _ | (simp; done) | (simp; omega) | omega)))), ((HL.out.far (by first | (simp; done) | (simp; omega) | omega) _).far (by first | (simp; done) | (simp; omega) | omega) _).drew, ((HX.out.far (by first | (simp; done) | (simp; omega) | omega) _).far (by first | (simp; done) | (simp; omega) | omega) _).drew, ((HP.out.far (by first | (simp; done) | (simp; omega) | omega) _).far (by first | (simp; done) | (simp; omega) | omega) _).drew, ?_, ?_⟩
      · exact ((HC.out.set 1 _).far (by first | (simp; done) | (simp; omega) | omega) _).drew
      · exact ((HN.out.far (by first | (simp; done) | (simp; omega) | omega) _).set 1 _).drew
    · obtain ⟨hb, rl, rx, rp, rc, rn⟩ := hA
      have cx : wr.cell? ⟨w.heap.size + 1, 2, none⟩ = some (.int .i64 z) := rx.cell 2
      have cs : wr.cell? ⟨w.heap.size, 0, none⟩ = some (.int .i64 s) := rl.cell 0
      have cp : wr.cell? ⟨w2.heap.size, 2, none⟩ = some (.int .i64 p3) := rp.cell 2
      have cc : wr.cell? ⟨w3.heap.size + 1, 2, none⟩ = some (.int .i64 0) := rc.cell 2
      have fc : wr.frozen? ⟨w3.heap.size + 1, 2, none⟩ = false := rc.frozen 2
      have cn : wr.cell? ⟨w3.heap.size + 1 + 1, 2, none⟩ = some (.int .i64 0) := rn.cell 2
      have fn : wr.frozen? ⟨w3.heap.size + 1 + 1, 2, none⟩ = false := rn.frozen 2
      have HB := Lib.hid hb
      have HL := Lib.hid rl
      have HX := Lib.hid rx
      have HP := Lib.hid rp
      have HC := Lib.hid rc
      have HN := Lib.hid rn
      clear hb rl rx rp rc rn
      go_wp2
      go_region
      go_wp2
      refine ⟨.inr (.inr (.inr ⟨rfl, ?_⟩)), by simp [intOf]⟩
      have hb := HB.out
      refine ⟨by (repeat (first | with_reducible exact Below.refl _ _ | with_reducible assumption | with_reducible refine below_drewN ?_ _ | with_reducible refine Below.drew ?_ | with_reducible refine Below.alloc ?_ (by first | exact Nat.le_refl _ | (simp; done) | (simp; omega) | omega) _ | with_reducible refine Below.setCell ?_ (by first | exact Nat.le_refl _ | (simp; done) | (simp; omega) | omega) _ | with_reducible refine Below.trans ?_ (Below.mono (by with_reducible assumption) (by first | exact Nat.le_refl _ | (simp; done) | (simp; omega) | omega)))), ((HL.out.far (by first | (simp; done) | (simp; omega) | omega) _).far (by first | (simp; done) | (simp; omega) | omega) _).drew, ((HX.out.far (by first | (simp; done) | (simp; omega) | omega) _).far (by first | (simp; done) | (simp; omega) | omega) _).drew, ((HP.out.far (by first | (simp; done) | (simp; omega) | omega) _).far (by first | (simp; done) | (simp; omega) | omega) _).drew, ?_, ?_⟩
      · exact ((HC.out.set 2 _).far (by first | (simp; done) | (simp; omega) | omega) _).drew
      · exact ((HN.out.far (by first | (simp; done) | (simp; omega) | omega) _).set 2 _).drew
    · obtain ⟨hb, rl, rx, rp, rc, rn⟩ := hA
      have l0 : wr.cell? ⟨w.heap.size, 0, none⟩ = some (.int .i64 s) := rl.cell 0
      have l1 : wr.cell? ⟨w.heap.size, 1, none⟩ = some (.int .i64 a) := rl.cell 1
      have l2 : wr.cell? ⟨w.heap.size, 2, none⟩ = some (.int .i64 b) := rl.cell 2
      have l3 : wr.cell? ⟨w.heap.size, 3, none⟩ = some (.int .i64 c) := rl.cell 3
      have e0 : wr.cell? ⟨w3.heap.size + 1, 0, none⟩ = some (.int .i64 (x + s)) := rc.cell 0
      have e1 : wr.cell? ⟨w3.heap.size + 1, 1, none⟩ = some (.int .i64 (y + s)) := rc.cell 1
      have e2 : wr.cell? ⟨w3.heap.size + 1, 2, none⟩ = some (.int .i64 (z + s)) := rc.cell 2
      have n0 : wr.cell? ⟨w3.heap.size + 1 + 1, 0, none⟩ = some (.int .i64 (p1 + 1)) := rn.cell 0
      have n1 : wr.cell? ⟨w3.heap.size + 1 + 1, 1, none⟩ = some (.int .i64 (p2 + 1)) := rn.cell 1
      have n2 : wr.cell? ⟨w3.heap.size + 1 + 1, 2, none⟩ = some (.int .i64 (p3 + 1)) := rn.cell 2
      have yy : w3.heap.size + 1 + 1 < wr.heap.size := rn.lt
      have HB := Lib.hid hb
      clear hb rl rx rp rc rn
      go_wp2_with fail
      refine (SC.out _).mono ?_
      rintro e w5 ⟨rfl, hb5⟩
      obtain ⟨hc5, hz5⟩ := bcell hb5
      have y5_0 : w3.heap.size < w5.heap.size := by have := hb5.size; (first | omega | (simp at this; omega))
      have y5_1 : w3.heap.size + 1 < w5.heap.size := by have := hb5.size; (first | omega | (simp at this; omega))
      have y5_2 : w3.heap.size + 1 + 1 < w5.heap.size := by have := hb5.size; (first | omega | (simp at this; omega))
      go_wp2_with fail
      refine (ON.out _).mono ?_
      rintro e w6 ⟨rfl, hb6⟩
      obtain ⟨hc6, hz6⟩ := bcell hb6
      have y6_3 : w5.heap.size < w6.heap.size := by have := hb6.size; (first | omega | (simp at this; omega))
      have y6_0 : w3.heap.size < w6.heap.size := by have := hb6.size; (first | omega | (simp at this; omega))
      have y6_1 : w3.heap.size + 1 < w6.heap.size := by have := hb6.size; (first | omega | (simp at this; omega))
      have y6_2 : w3.heap.size + 1 + 1 < w6.heap.size := by have := hb6.size; (first | omega | (simp at this; omega))
      go_wp2
      go_ret
      exact ⟨rfl, below_then (below_then (below_then HW3.out HB.out) hb5) ((Below.refl _ _).alloc (Nat.le_refl _) _ |>.trans (hb6.mono (by simp)))⟩

set_option maxHeartbeats 4000000 in
theorem order_bok_on (s a b c x y z u v t p1 p2 p3 q1 q2 q3 : Int) (w : World) (s1 : 1 ≤ s) (s2 : s ≤ 1048576) (x1 : -4611686018427387904 ≤ x) (x2 : x ≤ 4611686018427387904) (y1 : -4611686018427387904 ≤ y) (y2 : y ≤ 4611686018427387904) (z1 : -4611686018427387904 ≤ z) (z2 : z ≤ 4611686018427387904) (p11 : -1048576 ≤ p1) (p12 : p1 ≤ 1048576) (p21 : -1048576 ≤ p2) (p22 : p2 ≤ 1048576) (p31 : -1048576 ≤ p3) (p32 : p3 ≤ 1048576) (o1 : ordOk x u p1 q1) (o2 : ordOk y v p2 q2) (o3 : ordOk z t p3 q3) (S : Hid (∀ W, Calls Try.prog 12 #[.agg #[.int .i64 s, .int .i64 a, .int .i64 b, .int .i64 c], .agg #[.int .i64 x, .int .i64 y, .int .i64 z]] W fun e w' => e = .returned (.tuple #[.agg #[.int .i64 p1, .int .i64 p2, .int .i64 p3], .int .i64 0]) ∧ Below W.heap.size W w')) (S2 : Hid (∀ W, Calls Try.prog 12 #[.agg #[.int .i64 s, .int .i64 a, .int .i64 b, .int .i64 c], .agg #[.int .i64 u, .int .i64 v, .int .i64 t]] W fun e w' => e = .returned (.tuple #[.agg #[.int .i64 q1, .int .i64 q2, .int .i64 q3], .int .i64 0]) ∧ Below W.heap.size W w')) (SC : Hid (∀ W, Calls Try.prog 12 #[.agg #[.int .i64 s, .int .i64 a, .int .i64 b, .int .i64 c], .agg #[.int .i64 (x + s), .int .i64 (y + s), .int .i64 (z + s)]] W fun e w' => e = .returned (.tuple #[.agg #[.int .i64 (p1 + 1), .int .i64 (p2 + 1), .int .i64 (p3 + 1)], .int .i64 0]) ∧ Below W.heap.size W w')) (ON : Hid (∀ W, Calls Try.prog 16 #[.agg #[.int .i64 (p1 + 1), .int .i64 (p2 + 1), .int .i64 (p3 + 1)]] W fun e w' => e = .returned (.bool true) ∧ Below W.heap.size W w')) :
    Calls Try.prog 4 #[.agg #[.int .i64 s, .int .i64 a, .int .i64 b, .int .i64 c], .agg #[.int .i64 x, .int .i64 y, .int .i64 z], .agg #[.int .i64 u, .int .i64 v, .int .i64 t]] w fun e w' => e = .returned (.bool true) ∧ Below w.heap.size w w' := by
  have q0 : ∀ w, (Op.equalIn 10000 23 (.agg #[.int .i64 (p1 + 1), .int .i64 (p2 + 1), .int .i64 (p3 + 1)]) (.agg #[.int .i64 (p1 + 1), .int .i64 (p2 + 1), .int .i64 (p3 + 1)])).run Try.prog w = .ok true w := fun w => by have := eq23 (p1 + 1) (p2 + 1) (p3 + 1) (p1 + 1) (p2 + 1) (p3 + 1) w; rw [eqB_refl] at this; exact this
  go_enter Try.func4, Try.ntmps4
  go_wp2_with fail
  refine (awake_any _).mono ?_
  rintro e w1 ⟨rfl, hb1⟩
  obtain ⟨hc1, hz1⟩ := bcell hb1
  have s1 : w.heap.size + 1 + 1 < w1.heap.size := by have := hb1.size; simp at this; omega
  have s1' : w.heap.size + 1 < w1.heap.size := by omega
  have s1'' : w.heap.size < w1.heap.size := by omega
  go_wp2_with fail
  refine (S.out _).mono ?_
  rintro e w2 ⟨rfl, hb2⟩
  obtain ⟨hc2, hz2⟩ := bcell hb2
  have z2_0 : w.heap.size < w2.heap.size := by have := hb2.size; (first | omega | (simp at this; omega))
  have z2_1 : w.heap.size + 1 < w2.heap.size := by have := hb2.size; (first | omega | (simp at this; omega))
  have z2_2 : w.heap.size + 1 + 1 < w2.heap.size := by have := hb2.size; (first | omega | (simp at this; omega))
  go_wp2_with fail
  refine (S2.out _).mono ?_
  rintro e w3 ⟨rfl, hb3⟩
  obtain ⟨hc3, hz3⟩ := bcell hb3
  have z3_0 : w.heap.size < w3.heap.size := by have := hb3.size; (first | omega | (simp at this; omega))
  have z3_1 : w.heap.size + 1 < w3.heap.size := by have := hb3.size; (first | omega | (simp at this; omega))
  have z3_2 : w.heap.size + 1 + 1 < w3.heap.size := by have := hb3.size; (first | omega | (simp at this; omega))
  have z3_3 : w2.heap.size < w3.heap.size := by have := hb3.size; (first | omega | (simp at this; omega))
  have k0 : w3.cell? ⟨w.heap.size + 1, 0, none⟩ = some (.int .i64 x) := by go_simp
  have k1 : w3.cell? ⟨w.heap.size + 1, 1, none⟩ = some (.int .i64 y) := by go_simp
  have k2 : w3.cell? ⟨w.heap.size + 1, 2, none⟩ = some (.int .i64 z) := by go_simp
  have k3 : w3.cell? ⟨w.heap.size + 1 + 1, 0, none⟩ = some (.int .i64 u) := by go_simp
  have k4 : w3.cell? ⟨w.heap.size + 1 + 1, 1, none⟩ = some (.int .i64 v) := by go_simp
  have k5 : w3.cell? ⟨w.heap.size + 1 + 1, 2, none⟩ = some (.int .i64 t) := by go_simp
  have k6 : w3.cell? ⟨w2.heap.size, 0, none⟩ = some (.int .i64 p1) := by go_simp
  have k7 : w3.cell? ⟨w2.heap.size, 1, none⟩ = some (.int .i64 p2) := by go_simp
  have k8 : w3.cell? ⟨w2.heap.size, 2, none⟩ = some (.int .i64 p3) := by go_simp
  have RL := ((Rw.new' (w := w) (t := 25) [.int .i64 s, .int .i64 a, .int .i64 b, .int .i64 c] rfl).alloc (.cells #[.int .i64 x, .int .i64 y, .int .i64 z] 22)).alloc (.cells #[.int .i64 u, .int .i64 v, .int .i64 t] 22)
  have RL := ((RL.below hb1 (by first | (simp; done) | (simp; omega) | omega)).below hb2 s1'').alloc (.cells #[.int .i64 p1, .int .i64 p2, .int .i64 p3] 23)
  have RL := RL.below hb3 (by first | (simp; done) | (simp; omega) | omega)
  have RX := (Rw.new' (w := w.alloc (.cells #[.int .i64 s, .int .i64 a, .int .i64 b, .int .i64 c] 25)) (t := 22) (b := w.heap.size + 1) (i3 x y z) (by first | (simp; done) | (simp; omega) | omega)).alloc (.cells #[.int .i64 u, .int .i64 v, .int .i64 t] 22)
  have RX := ((RX.below hb1 (by first | (simp; done) | (simp; omega) | omega)).below hb2 s1').alloc (.cells #[.int .i64 p1, .int .i64 p2, .int .i64 p3] 23)
  have RX := RX.below hb3 (by first | (simp; done) | (simp; omega) | omega)
  have RP := (Rw.new' (w := w2) (t := 23) (i3 p1 p2 p3) rfl).below hb3 (by first | (simp; done) | (simp; omega) | omega)
  have HW3 : Hid (Below w.heap.size w w3) := by
    show Below w.heap.size w w3
    (repeat (first | with_reducible exact Below.refl _ _ | with_reducible assumption | with_reducible refine below_drewN ?_ _ | with_reducible refine Below.drew ?_ | with_reducible refine Below.alloc ?_ (by first | exact Nat.le_refl _ | (simp; done) | (simp; omega) | omega) _ | with_reducible refine Below.setCell ?_ (by first | exact Nat.le_refl _ | (simp; done) | (simp; omega) | omega) _ | with_reducible refine Below.trans ?_ (Below.mono (by with_reducible assumption) (by first | exact Nat.le_refl _ | (simp; done) | (simp; omega) | omega))))
  have HRL := Lib.hid RL
  have HRX := Lib.hid RX
  have HRP := Lib.hid RP
  clear RL RX RP hb1 hb2 hb3 hc1 hz1 hc2 hz2 hc3 hz3
  go_wp2
  go_loopw [11] (fun i wr => ∃ n : Nat, wr = (w3.alloc (.cells #[.int .i64 q1, .int .i64 q2, .int .i64 q3] 23)).drewN n ∧ (i = .int .i64 0 ∨ i = .int .i64 1 ∨ i = .int .i64 2 ∨ i = .int .i64 3)) (fun i _ => 3 - (intOf i).toNat)
  case atStart => exact ⟨0, rfl, .inl rfl⟩
  case round =>
    obtain ⟨n, rfl, hi⟩ := hrel
    rcases hi with rfl | rfl | rfl | rfl
    · unfold ordOk at o1
      rcases o1 with ⟨g1, g2⟩ | ⟨g1, g2⟩ | ⟨g1, g2⟩
      · have d1 : decide (x ≤ u) = true := by simp; omega
        have d2 : decide (q1 < p1) = false := by simp; omega
        have d3 : decide (u ≤ x) = false := by simp; omega
        go_wp2
        go_quiet (fail)
        go_wp2
        go_roundw
        case rel => exact ⟨_, rfl, .inr (.inl rfl)⟩
        case measure => simp [intOf]
      · have d1 : decide (x ≤ u) = false := by simp; omega
        have d3 : decide (u ≤ x) = true := by simp; omega
        have d2 : decide (p1 < q1) = false := by simp; omega
        go_wp2
        go_quiet (fail)
        go_wp2
        go_roundw
        case rel => exact ⟨_, rfl, .inr (.inl rfl)⟩
        case measure => simp [intOf]
      · have d1 : decide (x ≤ u) = true := by simp; omega
        have d3 : decide (u ≤ x) = true := by simp; omega
        have d2 : decide (p1 < q1) = false := by simp; omega
        have d4 : decide (q1 < p1) = false := by simp; omega
        clear g1 g2
        go_wp2
        go_quiet (fail)
        go_wp2
        go_roundw
        case rel => exact ⟨_, rfl, .inr (.inl rfl)⟩
        case measure => simp [intOf]
    · unfold ordOk at o2
      rcases o2 with ⟨g1, g2⟩ | ⟨g1, g2⟩ | ⟨g1, g2⟩
      · have d1 : decide (y ≤ v) = true := by simp; omega
        have d2 : decide (q2 < p2) = false := by simp; omega
        have d3 : decide (v ≤ y) = false := by simp; omega
        go_wp2
        go_quiet (fail)
        go_wp2
        go_roundw
        case rel => exact ⟨_, rfl, .inr (.inr (.inl rfl))⟩
        case measure => simp [intOf]
      · have d1 : decide (y ≤ v) = false := by simp; omega
        have d3 : decide (v ≤ y) = true := by simp; omega
        have d2 : decide (p2 < q2) = false := by simp; omega
        go_wp2
        go_quiet (fail)
        go_wp2
        go_roundw
        case rel => exact ⟨_, rfl, .inr (.inr (.inl rfl))⟩
        case measure => simp [intOf]
      · have d1 : decide (y ≤ v) = true := by simp; omega
        have d3 : decide (v ≤ y) = true := by simp; omega
        have d2 : decide (p2 < q2) = false := by simp; omega
        have d4 : decide (q2 < p2) = false := by simp; omega
        clear g1 g2
        go_wp2
        go_quiet (fail)
        go_wp2
        go_roundw
        case rel => exact ⟨_, rfl, .inr (.inr (.inl rfl))⟩
        case measure => simp [intOf]
    · unfold ordOk at o3
      rcases o3 with ⟨g1, g2⟩ | ⟨g1, g2⟩ | ⟨g1, g2⟩
      · have d1 : decide (z ≤ t) = true := by simp; omega
        have d2 : decide (q3 < p3) = false := by simp; omega
        have d3 : decide (t ≤ z) = false := by simp; omega
        go_wp2
        go_quiet (fail)
        go_wp2
        go_roundw
        case rel => exact ⟨_, rfl, .inr (.inr (.inr rfl))⟩
        case measure => simp [intOf]
      · have d1 : decide (z ≤ t) = false := by simp; omega
        have d3 : decide (t ≤ z) = true := by simp; omega
        have d2 : decide (p3 < q3) = false := by simp; omega
        go_wp2
        go_quiet (fail)
        go_wp2
        go_roundw
        case rel => exact ⟨_, rfl, .inr (.inr (.inr rfl))⟩
        case measure => simp [intOf]
      · have d1 : decide (z ≤ t) = true := by simp; omega
        have d3 : decide (t ≤ z) = true := by simp; omega
        have d2 : decide (p3 < q3) = false := by simp; omega
        have d4 : decide (q3 < p3) = false := by simp; omega
        clear g1 g2
        go_wp2
        go_quiet (fail)
        go_wp2
        go_roundw
        case rel => exact ⟨_, rfl, .inr (.inr (.inr rfl))⟩
        case measure => simp [intOf]
    go_wp2
    go_loopw [14] (fun i wr => OrdRel s a b c x y z p1 p2 p3 w.heap.size w2.heap.size w3.heap.size w3 i wr) (fun i _ => 3 - (intOf i).toNat)
    case atStart =>
      refine .inl ⟨rfl, by (repeat (first | with_reducible exact Below.refl _ _ | with_reducible assumption | with_reducible refine below_drewN ?_ _ | with_reducible refine Below.drew ?_ | with_reducible refine Below.alloc ?_ (by first | exact Nat.le_refl _ | (simp; done) | (simp; omega) | omega) _ | with_reducible refine Below.setCell ?_ (by first | exact Nat.le_refl _ | (simp; done) | (simp; omega) | omega) _ | with_reducible refine Below.trans ?_ (Below.mono (by with_reducible assumption) (by first | exact Nat.le_refl _ | (simp; done) | (simp; omega) | omega)))), (((HRL.out.alloc (.cells #[.int .i64 q1, .int .i64 q2, .int .i64 q3] 23)).drewN n).alloc _).alloc _, (((HRX.out.alloc (.cells #[.int .i64 q1, .int .i64 q2, .int .i64 q3] 23)).drewN n).alloc _).alloc _, (((HRP.out.alloc (.cells #[.int .i64 q1, .int .i64 q2, .int .i64 q3] 23)).drewN n).alloc _).alloc _, ?_, ?_⟩
      · exact (Rw.new' (i3 0 0 0) (by first | (simp; done) | (simp; omega) | omega)).alloc _
      · exact Rw.new' (i3 0 0 0) (by first | (simp; done) | (simp; omega) | omega)
    case round =>
      rcases hrel with ⟨rfl, hA⟩ | ⟨rfl, hA⟩ | ⟨rfl, hA⟩ | ⟨rfl, hA⟩
      · obtain ⟨hb, rl, rx, rp, rc, rn⟩ := hA
        have cx : wr.cell? ⟨w.heap.size + 1, 0, none⟩ = some (.int .i64 x) := rx.cell 0
        have cs : wr.cell? ⟨w.heap.size, 0, none⟩ = some (.int .i64 s) := rl.cell 0
        have cp : wr.cell? ⟨w2.heap.size, 0, none⟩ = some (.int .i64 p1) := rp.cell 0
        have cc : wr.cell? ⟨w3.heap.size + 1, 0, none⟩ = some (.int .i64 0) := rc.cell 0
        have fc : wr.frozen? ⟨w3.heap.size + 1, 0, none⟩ = false := rc.frozen 0
        have cn : wr.cell? ⟨w3.heap.size + 1 + 1, 0, none⟩ = some (.int .i64 0) := rn.cell 0
        have fn : wr.frozen? ⟨w3.heap.size + 1 + 1, 0, none⟩ = false := rn.frozen 0
        have HB := Lib.hid hb
        have HL := Lib.hid rl
        have HX := Lib.hid rx
        have HP := Lib.hid rp
        have HC := Lib.hid rc
        have HN := Lib.hid rn
        clear hb rl rx rp rc rn
        go_wp2
        go_region
        go_wp2
        refine ⟨.inr (.inl ⟨rfl, ?_⟩), by simp [intOf]⟩
        have hb := HB.out
        refine ⟨by (repeat (first | with_reducible exact Below.refl _ _ | with_reducible assumption | with_reducible refine below_drewN ?_ _ | with_reducible refine Below.drew ?_ | with_reducible refine Below.alloc ?_ (by first | exact Nat.le_refl _ | (simp; done) | (simp; omega) | omega) _ | with_reducible refine Below.setCell ?_ (by first | exact Nat.le_refl _ | (simp; done) | (simp; omega) | omega) _ | with_reducible refine Below.trans ?_ (Below.mono (by with_reducible assumption) (by first | exact Nat.le_refl _ | (simp; done) | (simp; omega) | omega)))), ((HL.out.far (by first | (simp; done) | (simp; omega) | omega) _).far (by first | (simp; done) | (simp; omega) | omega) _).drew, ((HX.out.far (by first | (simp; done) | (simp; omega) | omega) _).far (by first | (simp; done) | (simp; omega) | omega) _).drew, ((HP.out.far (by first | (simp; done) | (simp; omega) | omega) _).far (by first | (simp; done) | (simp; omega) | omega) _).drew, ?_, ?_⟩
        · exact ((HC.out.set 0 _).far (by first | (simp; done) | (simp; omega) | omega) _).drew
        · exact ((HN.out.far (by first | (simp; done) | (simp; omega) | omega) _).set 0 _).drew
      · obtain ⟨hb, rl, rx, rp, rc, rn⟩ := hA
        have cx : wr.cell? ⟨w.heap.size + 1, 1, none⟩ = some (.int .i64 y) := rx.cell 1
        have cs : wr.cell? ⟨w.heap.size, 0, none⟩ = some (.int .i64 s) := rl.cell 0
        have cp : wr.cell? ⟨w2.heap.size, 1, none⟩ = some (.int .i64 p2) := rp.cell 1
        have cc : wr.cell? ⟨w3.heap.size + 1, 1, none⟩ = some (.int .i64 0) := rc.cell 1
        have fc : wr.frozen? ⟨w3.heap.size + 1, 1, none⟩ = false := rc.frozen 1
        have cn : wr.cell? ⟨w3.heap.size + 1 + 1, 1, none⟩ = some (.int .i64 0) := rn.cell 1
        have fn : wr.frozen? ⟨w3.heap.size + 1 + 1, 1, none⟩ = false := rn.frozen 1
        have HB := Lib.hid hb
        have HL := Lib.hid rl
        have HX := Lib.hid rx
        have HP := Lib.hid rp
        have HC := Lib.hid rc
        have HN := Lib.hid rn
        clear hb rl rx rp rc rn
        go_wp2
        go_region
        go_wp2
        refine ⟨.inr (.inr (.inl ⟨rfl, ?_⟩)), by simp [intOf]⟩
        have hb := HB.out
        refine ⟨by (repeat (first | with_reducible exact Below.refl _ _ | with_reducible assumption | with_reducible refine below_drewN ?_ _ | with_reducible refine Below.drew ?_ | with_reducible refine Below.alloc ?_ (by first | exact Nat.le_refl _ | (simp; done) | (simp; omega) | omega) _ | with_reducible refine Below.setCell ?_ (by first | exact Nat.le_refl _ | (simp; done) | (simp; omega) | omega) _ | with_reducible refine Below.trans ?_ (Below.mono (by with_reducible assumption) (by first | exact Nat.le_refl _ | (simp; done) | (simp; omega) | omega)))), ((HL.out.far (by first | (simp; done) | (simp; omega) | omega) _).far (by first | (simp; done) | (simp; omega) | omega) _).drew, ((HX.out.far (by first | (simp; done) | (simp; omega) | omega) _).far (by first | (simp; done) | (simp; omega) | omega) _).drew, ((HP.out.far (by first | (simp; done) | (simp; omega) | omega) _).far (by first | (simp; done) | (simp; omega) | omega) _).drew, ?_, ?_⟩
        · exact ((HC.out.set 1 _).far (by first | (simp; done) | (simp; omega) | omega) _).drew
        · exact ((HN.out.far (by first | (simp; done) | (simp; omega) | omega) _).set 1 _).drew
      · obtain ⟨hb, rl, rx, rp, rc, rn⟩ := hA
        have cx : wr.cell? ⟨w.heap.size + 1, 2, none⟩ = some (.int .i64 z) := rx.cell 2
        have cs : wr.cell? ⟨w.heap.size, 0, none⟩ = some (.int .i64 s) := rl.cell 0
        have cp : wr.cell? ⟨w2.heap.size, 2, none⟩ = some (.int .i64 p3) := rp.cell 2
        have cc : wr.cell? ⟨w3.heap.size + 1, 2, none⟩ = some (.int .i64 0) := rc.cell 2
        have fc : wr.frozen? ⟨w3.heap.size + 1, 2, none⟩ = false := rc.frozen 2
        have cn : wr.cell? ⟨w3.heap.size + 1 + 1, 2, none⟩ = some (.int .i64 0) := rn.cell 2
        have fn : wr.frozen? ⟨w3.heap.size + 1 + 1, 2, none⟩ = false := rn.frozen 2
        have HB := Lib.hid hb
        have HL := Lib.hid rl
        have HX := Lib.hid rx
        have HP := Lib.hid rp
        have HC := Lib.hid rc
        have HN := Lib.hid rn
        clear hb rl rx rp rc rn
        go_wp2
        go_region
        go_wp2
        refine ⟨.inr (.inr (.inr ⟨rfl, ?_⟩)), by simp [intOf]⟩
        have hb := HB.out
        refine ⟨by (repeat (first | with_reducible exact Below.refl _ _ | with_reducible assumption | with_reducible refine below_drewN ?_ _ | with_reducible refine Below.drew ?_ | with_reducible refine Below.alloc ?_ (by first | exact Nat.le_refl _ | (simp; done) | (simp; omega) | omega) _ | with_reducible refine Below.setCell ?_ (by first | exact Nat.le_refl _ | (simp; done) | (simp; omega) | omega) _ | with_reducible refine Below.trans ?_ (Below.mono (by with_reducible assumption) (by first | exact Nat.le_refl _ | (simp; done) | (simp; omega) | omega)))), ((HL.out.far (by first | (simp; done) | (simp; omega) | omega) _).far (by first | (simp; done) | (simp; omega) | omega) _).drew, ((HX.out.far (by first | (simp; done) | (simp; omega) | omega) _).far (by first | (simp; done) | (simp; omega) | omega) _).drew, ((HP.out.far (by first | (simp; done) | (simp; omega) | omega) _).far (by first | (simp; done) | (simp; omega) | omega) _).drew, ?_, ?_⟩
        · exact ((HC.out.set 2 _).far (by first | (simp; done) | (simp; omega) | omega) _).drew
        · exact ((HN.out.far (by first | (simp; done) | (simp; omega) | omega) _).set 2 _).drew
      · obtain ⟨hb, rl, rx, rp, rc, rn⟩ := hA
        have l0 : wr.cell? ⟨w.heap.size, 0, none⟩ = some (.int .i64 s) := rl.cell 0
        have l1 : wr.cell? ⟨w.heap.size, 1, none⟩ = some (.int .i64 a) := rl.cell 1
        have l2 : wr.cell? ⟨w.heap.size, 2, none⟩ = some (.int .i64 b) := rl.cell 2
        have l3 : wr.cell? ⟨w.heap.size, 3, none⟩ = some (.int .i64 c) := rl.cell 3
        have e0 : wr.cell? ⟨w3.heap.size + 1, 0, none⟩ = some (.int .i64 (x + s)) := rc.cell 0
        have e1 : wr.cell? ⟨w3.heap.size + 1, 1, none⟩ = some (.int .i64 (y + s)) := rc.cell 1
        have e2 : wr.cell? ⟨w3.heap.size + 1, 2, none⟩ = some (.int .i64 (z + s)) := rc.cell 2
        have n0 : wr.cell? ⟨w3.heap.size + 1 + 1, 0, none⟩ = some (.int .i64 (p1 + 1)) := rn.cell 0
        have n1 : wr.cell? ⟨w3.heap.size + 1 + 1, 1, none⟩ = some (.int .i64 (p2 + 1)) := rn.cell 1
        have n2 : wr.cell? ⟨w3.heap.size + 1 + 1, 2, none⟩ = some (.int .i64 (p3 + 1)) := rn.cell 2
        have yy : w3.heap.size + 1 + 1 < wr.heap.size := rn.lt
        have HB := Lib.hid hb
        clear hb rl rx rp rc rn
        go_wp2_with fail
        refine (SC.out _).mono ?_
        rintro e w5 ⟨rfl, hb5⟩
        obtain ⟨hc5, hz5⟩ := bcell hb5
        have y5_0 : w3.heap.size < w5.heap.size := by have := hb5.size; (first | omega | (simp at this; omega))
        have y5_1 : w3.heap.size + 1 < w5.heap.size := by have := hb5.size; (first | omega | (simp at this; omega))
        have y5_2 : w3.heap.size + 1 + 1 < w5.heap.size := by have := hb5.size; (first | omega | (simp at this; omega))
        go_wp2_with fail
        refine (ON.out _).mono ?_
        rintro e w6 ⟨rfl, hb6⟩
        obtain ⟨hc6, hz6⟩ := bcell hb6
        have y6_3 : w5.heap.size < w6.heap.size := by have := hb6.size; (first | omega | (simp at this; omega))
        have y6_0 : w3.heap.size < w6.heap.size := by have := hb6.size; (first | omega | (simp at this; omega))
        have y6_1 : w3.heap.size + 1 < w6.heap.size := by have := hb6.size; (first | omega | (simp at this; omega))
        have y6_2 : w3.heap.size + 1 + 1 < w6.heap.size := by have := hb6.size; (first | omega | (simp at this; omega))
        go_wp2
        go_ret
        exact ⟨rfl, below_then (below_then (below_then HW3.out HB.out) hb5) ((Below.refl _ _).alloc (Nat.le_refl _) _ |>.trans (hb6.mono (by simp)))⟩

set_option maxHeartbeats 4000000 in
theorem order_bout_off (s a b c x y z u v t p1 p2 p3 : Int) (w : World) (s1 : 1 ≤ s) (s2 : s ≤ 1048576) (x1 : -4611686018427387904 ≤ x) (x2 : x ≤ 4611686018427387904) (y1 : -4611686018427387904 ≤ y) (y2 : y ≤ 4611686018427387904) (z1 : -4611686018427387904 ≤ z) (z2 : z ≤ 4611686018427387904) (p11 : -1048576 ≤ p1) (p12 : p1 ≤ 1048576) (p21 : -1048576 ≤ p2) (p22 : p2 ≤ 1048576) (p31 : -1048576 ≤ p3) (p32 : p3 ≤ 1048576) (S : Hid (∀ W, Calls Try.prog 12 #[.agg #[.int .i64 s, .int .i64 a, .int .i64 b, .int .i64 c], .agg #[.int .i64 x, .int .i64 y, .int .i64 z]] W fun e w' => e = .returned (.tuple #[.agg #[.int .i64 p1, .int .i64 p2, .int .i64 p3], .int .i64 0]) ∧ Below W.heap.size W w')) (S2 : Hid (∀ W, Calls Try.prog 12 #[.agg #[.int .i64 s, .int .i64 a, .int .i64 b, .int .i64 c], .agg #[.int .i64 u, .int .i64 v, .int .i64 t]] W fun e w' => e = .returned (.tuple #[.agg #[.int .i64 0, .int .i64 0, .int .i64 0], .int .i64 2]) ∧ Below W.heap.size W w')) (SC : Hid (∀ W, Calls Try.prog 12 #[.agg #[.int .i64 s, .int .i64 a, .int .i64 b, .int .i64 c], .agg #[.int .i64 (x + s), .int .i64 (y + s), .int .i64 (z + s)]] W fun e w' => e = .returned (.tuple #[.agg #[.int .i64 0, .int .i64 0, .int .i64 0], .int .i64 2]) ∧ Below W.heap.size W w')) (ON : Hid (∀ W, Calls Try.prog 16 #[.agg #[.int .i64 (p1 + 1), .int .i64 (p2 + 1), .int .i64 (p3 + 1)]] W fun e w' => e = .returned (.bool false) ∧ Below W.heap.size W w')) :
    Calls Try.prog 4 #[.agg #[.int .i64 s, .int .i64 a, .int .i64 b, .int .i64 c], .agg #[.int .i64 x, .int .i64 y, .int .i64 z], .agg #[.int .i64 u, .int .i64 v, .int .i64 t]] w fun e w' => e = .returned (.bool true) ∧ Below w.heap.size w w' := by
  go_enter Try.func4, Try.ntmps4
  go_wp2_with fail
  refine (awake_any _).mono ?_
  rintro e w1 ⟨rfl, hb1⟩
  obtain ⟨hc1, hz1⟩ := bcell hb1
  have s1 : w.heap.size + 1 + 1 < w1.heap.size := by have := hb1.size; simp at this; omega
  have s1' : w.heap.size + 1 < w1.heap.size := by omega
  have s1'' : w.heap.size < w1.heap.size := by omega
  go_wp2_with fail
  refine (S.out _).mono ?_
  rintro e w2 ⟨rfl, hb2⟩
  obtain ⟨hc2, hz2⟩ := bcell hb2
  have z2_0 : w.heap.size < w2.heap.size := by have := hb2.size; (first | omega | (simp at this; omega))
  have z2_1 : w.heap.size + 1 < w2.heap.size := by have := hb2.size; (first | omega | (simp at this; omega))
  have z2_2 : w.heap.size + 1 + 1 < w2.heap.size := by have := hb2.size; (first | omega | (simp at this; omega))
  go_wp2_with fail
  refine (S2.out _).mono ?_
  rintro e w3 ⟨rfl, hb3⟩
  obtain ⟨hc3, hz3⟩ := bcell hb3
  have z3_0 : w.heap.size < w3.heap.size := by have := hb3.size; (first | omega | (simp at this; omega))
  have z3_1 : w.heap.size + 1 < w3.heap.size := by have := hb3.size; (first | omega | (simp at this; omega))
  have z3_2 : w.heap.size + 1 + 1 < w3.heap.size := by have := hb3.size; (first | omega | (simp at this; omega))
  have z3_3 : w2.heap.size < w3.heap.size := by have := hb3.size; (first | omega | (simp at this; omega))
  have RL := ((Rw.new' (w := w) (t := 25) [.int .i64 s, .int .i64 a, .int .i64 b, .int .i64 c] rfl).alloc (.cells #[.int .i64 x, .int .i64 y, .int .i64 z] 22)).alloc (.cells #[.int .i64 u, .int .i64 v, .int .i64 t] 22)
  have RL := ((RL.below hb1 (by first | (simp; done) | (simp; omega) | omega)).below hb2 s1'').alloc (.cells #[.int .i64 p1, .int .i64 p2, .int .i64 p3] 23)
  have RL := RL.below hb3 (by first | (simp; done) | (simp; omega) | omega)
  have RX := (Rw.new' (w := w.alloc (.cells #[.int .i64 s, .int .i64 a, .int .i64 b, .int .i64 c] 25)) (t := 22) (b := w.heap.size + 1) (i3 x y z) (by first | (simp; done) | (simp; omega) | omega)).alloc (.cells #[.int .i64 u, .int .i64 v, .int .i64 t] 22)
  have RX := ((RX.below hb1 (by first | (simp; done) | (simp; omega) | omega)).below hb2 s1').alloc (.cells #[.int .i64 p1, .int .i64 p2, .int .i64 p3] 23)
  have RX := RX.below hb3 (by first | (simp; done) | (simp; omega) | omega)
  have RP := (Rw.new' (w := w2) (t := 23) (i3 p1 p2 p3) rfl).below hb3 (by first | (simp; done) | (simp; omega) | omega)
  have HW3 : Hid (Below w.heap.size w w3) := by
    show Below w.heap.size w w3
    (repeat (first | with_reducible exact Below.refl _ _ | with_reducible assumption | with_reducible refine below_drewN ?_ _ | with_reducible refine Below.drew ?_ | with_reducible refine Below.alloc ?_ (by first | exact Nat.le_refl _ | (simp; done) | (simp; omega) | omega) _ | with_reducible refine Below.setCell ?_ (by first | exact Nat.le_refl _ | (simp; done) | (simp; omega) | omega) _ | with_reducible refine Below.trans ?_ (Below.mono (by with_reducible assumption) (by first | exact Nat.le_refl _ | (simp; done) | (simp; omega) | omega))))
  have HRL := Lib.hid RL
  have HRX := Lib.hid RX
  have HRP := Lib.hid RP
  clear RL RX RP hb1 hb2 hb3 hc1 hz1 hc2 hz2 hc3 hz3
  go_wp2
  go_loopw [14] (fun i wr => OrdRel s a b c x y z p1 p2 p3 w.heap.size w2.heap.size w3.heap.size w3 i wr) (fun i _ => 3 - (intOf i).toNat)
  case atStart =>
    refine .inl ⟨rfl, by (repeat (first | with_reducible exact Below.refl _ _ | with_reducible assumption | with_reducible refine below_drewN ?_ _ | with_reducible refine Below.drew ?_ | with_reducible refine Below.alloc ?_ (by first | exact Nat.le_refl _ | (simp; done) | (simp; omega) | omega) _ | with_reducible refine Below.setCell ?_ (by first | exact Nat.le_refl _ | (simp; done) | (simp; omega) | omega) _ | with_reducible refine Below.trans ?_ (Below.mono (by with_reducible assumption) (by first | exact Nat.le_refl _ | (simp; done) | (simp; omega) | omega)))), ((HRL.out.alloc (.cells #[.int .i64 0, .int .i64 0, .int .i64 0] 23)).alloc _).alloc _, ((HRX.out.alloc (.cells #[.int .i64 0, .int .i64 0, .int .i64 0] 23)).alloc _).alloc _, ((HRP.out.alloc (.cells #[.int .i64 0, .int .i64 0, .int .i64 0] 23)).alloc _).alloc _, ?_, ?_⟩
    · exact (Rw.new' (i3 0 0 0) (by first | (simp; done) | (simp; omega) | omega)).alloc _
    · exact Rw.new' (i3 0 0 0) (by first | (simp; done) | (simp; omega) | omega)
  case round =>
    rcases hrel with ⟨rfl, hA⟩ | ⟨rfl, hA⟩ | ⟨rfl, hA⟩ | ⟨rfl, hA⟩
    · obtain ⟨hb, rl, rx, rp, rc, rn⟩ := hA
      have cx : wr.cell? ⟨w.heap.size + 1, 0, none⟩ = some (.int .i64 x) := rx.cell 0
      have cs : wr.cell? ⟨w.heap.size, 0, none⟩ = some (.int .i64 s) := rl.cell 0
      have cp : wr.cell? ⟨w2.heap.size, 0, none⟩ = some (.int .i64 p1) := rp.cell 0
      have cc : wr.cell? ⟨w3.heap.size + 1, 0, none⟩ = some (.int .i64 0) := rc.cell 0
      have fc : wr.frozen? ⟨w3.heap.size + 1, 0, none⟩ = false := rc.frozen 0
      have cn : wr.cell? ⟨w3.heap.size + 1 + 1, 0, none⟩ = some (.int .i64 0) := rn.cell 0
      have fn : wr.frozen? ⟨w3.heap.size + 1 + 1, 0, none⟩ = false := rn.frozen 0
      have HB := Lib.hid hb
      have HL := Lib.hid rl
      have HX := Lib.hid rx
      have HP := Lib.hid rp
      have HC := Lib.hid rc
      have HN := Lib.hid rn
      clear hb rl rx rp rc rn
      go_wp2
      go_region
      go_wp2
      refine ⟨.inr (.inl ⟨rfl, ?_⟩), by simp [intOf]⟩
      have hb := HB.out
      refine ⟨by (repeat (first | with_reducible exact Below.refl _ _ | with_reducible assumption | with_reducible refine below_drewN ?_ _ | with_reducible refine Below.drew ?_ | with_reducible refine Below.alloc ?_ (by first | exact Nat.le_refl _ | (simp; done) | (simp; omega) | omega) _ | with_reducible refine Below.setCell ?_ (by first | exact Nat.le_refl _ | (simp; done) | (simp; omega) | omega) _ | with_reducible refine Below.trans ?_ (Below.mono (by with_reducible assumption) (by first | exact Nat.le_refl _ | (simp; done) | (simp; omega) | omega)))), ((HL.out.far (by first | (simp; done) | (simp; omega) | omega) _).far (by first | (simp; done) | (simp; omega) | omega) _).drew, ((HX.out.far (by first | (simp; done) | (simp; omega) | omega) _).far (by first | (simp; done) | (simp; omega) | omega) _).drew, ((HP.out.far (by first | (simp; done) | (simp; omega) | omega) _).far (by first | (simp; done) | (simp; omega) | omega) _).drew, ?_, ?_⟩
      · exact ((HC.out.set 0 _).far (by first | (simp; done) | (simp; omega) | omega) _).drew
      · exact ((HN.out.far (by first | (simp; done) | (simp; omega) | omega) _).set 0 _).drew
    · obtain ⟨hb, rl, rx, rp, rc, rn⟩ := hA
      have cx : wr.cell? ⟨w.heap.size + 1, 1, none⟩ = some (.int .i64 y) := rx.cell 1
      have cs : wr.cell? ⟨w.heap.size, 0, none⟩ = some (.int .i64 s) := rl.cell 0
      have cp : wr.cell? ⟨w2.heap.size, 1, none⟩ = some (.int .i64 p2) := rp.cell 1
      have cc : wr.cell? ⟨w3.heap.size + 1, 1, none⟩ = some (.int .i64 0) := rc.cell 1
      have fc : wr.frozen? ⟨w3.heap.size + 1, 1, none⟩ = false := rc.frozen 1
      have cn : wr.cell? ⟨w3.heap.size + 1 + 1, 1, none⟩ = some (.int .i64 0) := rn.cell 1
      have fn : wr.frozen? ⟨w3.heap.size + 1 + 1, 1, none⟩ = false := rn.frozen 1
      have HB := Lib.hid hb
      have HL := Lib.hid rl
      have HX := Lib.hid rx
      have HP := Lib.hid rp
      have HC := Lib.hid rc
      have HN := Lib.hid rn
      clear hb rl rx rp rc rn
      go_wp2
      go_region
      go_wp2
      refine ⟨.inr (.inr (.inl ⟨rfl, ?_⟩)), by simp [intOf]⟩
      have hb := HB.out
      refine ⟨by (repeat (first | with_reducible exact Below.refl _ _ | with_reducible assumption | with_reducible refine below_drewN ?_ _ | with_reducible refine Below.drew ?_ | with_reducible refine Below.alloc ?_ (by first | exact Nat.le_refl _ | (simp; done) | (simp; omega) | omega) _ | with_reducible refine Below.setCell ?_ (by first | exact Nat.le_refl _ | (simp; done) | (simp; omega) | omega) _ | with_reducible refine Below.trans ?_ (Below.mono (by with_reducible assumption) (by first | exact Nat.le_refl _ | (simp; done) | (simp; omega) | omega)))), ((HL.out.far (by first | (simp; done) | (simp; omega) | omega) _).far (by first | (simp; done) | (simp; omega) | omega) _).drew, ((HX.out.far (by first | (simp; done) | (simp; omega) | omega) _).far (by first | (simp; done) | (simp; omega) | omega) _).drew, ((HP.out.far (by first | (simp; done) | (simp; omega) | omega) _).far (by first | (simp; done) | (simp; omega) | omega) _).drew, ?_, ?_⟩
      · exact ((HC.out.set 1 _).far (by first | (simp; done) | (simp; omega) | omega) _).drew
      · exact ((HN.out.far (by first | (simp; done) | (simp; omega) | omega) _).set 1 _).drew
    · obtain ⟨hb, rl, rx, rp, rc, rn⟩ := hA
      have cx : wr.cell? ⟨w.heap.size + 1, 2, none⟩ = some (.int .i64 z) := rx.cell 2
      have cs : wr.cell? ⟨w.heap.size, 0, none⟩ = some (.int .i64 s) := rl.cell 0
      have cp : wr.cell? ⟨w2.heap.size, 2, none⟩ = some (.int .i64 p3) := rp.cell 2
      have cc : wr.cell? ⟨w3.heap.size + 1, 2, none⟩ = some (.int .i64 0) := rc.cell 2
      have fc : wr.frozen? ⟨w3.heap.size + 1, 2, none⟩ = false := rc.frozen 2
      have cn : wr.cell? ⟨w3.heap.size + 1 + 1, 2, none⟩ = some (.int .i64 0) := rn.cell 2
      have fn : wr.frozen? ⟨w3.heap.size + 1 + 1, 2, none⟩ = false := rn.frozen 2
      have HB := Lib.hid hb
      have HL := Lib.hid rl
      have HX := Lib.hid rx
      have HP := Lib.hid rp
      have HC := Lib.hid rc
      have HN := Lib.hid rn
      clear hb rl rx rp rc rn
      go_wp2
      go_region
      go_wp2
      refine ⟨.inr (.inr (.inr ⟨rfl, ?_⟩)), by simp [intOf]⟩
      have hb := HB.out
      refine ⟨by (repeat (first | with_reducible exact Below.refl _ _ | with_reducible assumption | with_reducible refine below_drewN ?_ _ | with_reducible refine Below.drew ?_ | with_reducible refine Below.alloc ?_ (by first | exact Nat.le_refl _ | (simp; done) | (simp; omega) | omega) _ | with_reducible refine Below.setCell ?_ (by first | exact Nat.le_refl _ | (simp; done) | (simp; omega) | omega) _ | with_reducible refine Below.trans ?_ (Below.mono (by with_reducible assumption) (by first | exact Nat.le_refl _ | (simp; done) | (simp; omega) | omega)))), ((HL.out.far (by first | (simp; done) | (simp; omega) | omega) _).far (by first | (simp; done) | (simp; omega) | omega) _).drew, ((HX.out.far (by first | (simp; done) | (simp; omega) | omega) _).far (by first | (simp; done) | (simp; omega) | omega) _).drew, ((HP.out.far (by first | (simp; done) | (simp; omega) | omega) _).far (by first | (simp; done) | (simp; omega) | omega) _).drew, ?_, ?_⟩
      · exact ((HC.out.set 2 _).far (by first | (simp; done) | (simp; omega) | omega) _).drew
      · exact ((HN.out.far (by first | (simp; done) | (simp; omega) | omega) _).set 2 _).drew
    · obtain ⟨hb, rl, rx, rp, rc, rn⟩ := hA
      have l0 : wr.cell? ⟨w.heap.size, 0, none⟩ = some (.int .i64 s) := rl.cell 0
      have l1 : wr.cell? ⟨w.heap.size, 1, none⟩ = some (.int .i64 a) := rl.cell 1
      have l2 : wr.cell? ⟨w.heap.size, 2, none⟩ = some (.int .i64 b) := rl.cell 2
      have l3 : wr.cell? ⟨w.heap.size, 3, none⟩ = some (.int .i64 c) := rl.cell 3
      have e0 : wr.cell? ⟨w3.heap.size + 1, 0, none⟩ = some (.int .i64 (x + s)) := rc.cell 0
      have e1 : wr.cell? ⟨w3.heap.size + 1, 1, none⟩ = some (.int .i64 (y + s)) := rc.cell 1
      have e2 : wr.cell? ⟨w3.heap.size + 1, 2, none⟩ = some (.int .i64 (z + s)) := rc.cell 2
      have n0 : wr.cell? ⟨w3.heap.size + 1 + 1, 0, none⟩ = some (.int .i64 (p1 + 1)) := rn.cell 0
      have n1 : wr.cell? ⟨w3.heap.size + 1 + 1, 1, none⟩ = some (.int .i64 (p2 + 1)) := rn.cell 1
      have n2 : wr.cell? ⟨w3.heap.size + 1 + 1, 2, none⟩ = some (.int .i64 (p3 + 1)) := rn.cell 2
      have yy : w3.heap.size + 1 + 1 < wr.heap.size := rn.lt
      have HB := Lib.hid hb
      clear hb rl rx rp rc rn
      go_wp2_with fail
      refine (SC.out _).mono ?_
      rintro e w5 ⟨rfl, hb5⟩
      obtain ⟨hc5, hz5⟩ := bcell hb5
      have y5_0 : w3.heap.size < w5.heap.size := by have := hb5.size; (first | omega | (simp at this; omega))
      have y5_1 : w3.heap.size + 1 < w5.heap.size := by have := hb5.size; (first | omega | (simp at this; omega))
      have y5_2 : w3.heap.size + 1 + 1 < w5.heap.size := by have := hb5.size; (first | omega | (simp at this; omega))
      go_wp2_with fail
      refine (ON.out _).mono ?_
      rintro e w6 ⟨rfl, hb6⟩
      obtain ⟨hc6, hz6⟩ := bcell hb6
      have y6_3 : w5.heap.size < w6.heap.size := by have := hb6.size; (first | omega | (simp at this; omega))
      have y6_0 : w3.heap.size < w6.heap.size := by have := hb6.size; (first | omega | (simp at this; omega))
      have y6_1 : w3.heap.size + 1 < w6.heap.size := by have := hb6.size; (first | omega | (simp at this; omega))
      have y6_2 : w3.heap.size + 1 + 1 < w6.heap.size := by have := hb6.size; (first | omega | (simp at this; omega))
      go_wp2
      go_ret
      exact ⟨rfl, below_then (below_then (below_then HW3.out HB.out) hb5) ((Below.refl _ _).alloc (Nat.le_refl _) _ |>.trans (hb6.mono (by simp)))⟩

set_option maxHeartbeats 4000000 in
theorem order_bok_off (s a b c x y z u v t p1 p2 p3 q1 q2 q3 : Int) (w : World) (s1 : 1 ≤ s) (s2 : s ≤ 1048576) (x1 : -4611686018427387904 ≤ x) (x2 : x ≤ 4611686018427387904) (y1 : -4611686018427387904 ≤ y) (y2 : y ≤ 4611686018427387904) (z1 : -4611686018427387904 ≤ z) (z2 : z ≤ 4611686018427387904) (p11 : -1048576 ≤ p1) (p12 : p1 ≤ 1048576) (p21 : -1048576 ≤ p2) (p22 : p2 ≤ 1048576) (p31 : -1048576 ≤ p3) (p32 : p3 ≤ 1048576) (o1 : ordOk x u p1 q1) (o2 : ordOk y v p2 q2) (o3 : ordOk z t p3 q3) (S : Hid (∀ W, Calls Try.prog 12 #[.agg #[.int .i64 s, .int .i64 a, .int .i64 b, .int .i64 c], .agg #[.int .i64 x, .int .i64 y, .int .i64 z]] W fun e w' => e = .returned (.tuple #[.agg #[.int .i64 p1, .int .i64 p2, .int .i64 p3], .int .i64 0]) ∧ Below W.heap.size W w')) (S2 : Hid (∀ W, Calls Try.prog 12 #[.agg #[.int .i64 s, .int .i64 a, .int .i64 b, .int .i64 c], .agg #[.int .i64 u, .int .i64 v, .int .i64 t]] W fun e w' => e = .returned (.tuple #[.agg #[.int .i64 q1, .int .i64 q2, .int .i64 q3], .int .i64 0]) ∧ Below W.heap.size W w')) (SC : Hid (∀ W, Calls Try.prog 12 #[.agg #[.int .i64 s, .int .i64 a, .int .i64 b, .int .i64 c], .agg #[.int .i64 (x + s), .int .i64 (y + s), .int .i64 (z + s)]] W fun e w' => e = .returned (.tuple #[.agg #[.int .i64 0, .int .i64 0, .int .i64 0], .int .i64 2]) ∧ Below W.heap.size W w')) (ON : Hid (∀ W, Calls Try.prog 16 #[.agg #[.int .i64 (p1 + 1), .int .i64 (p2 + 1), .int .i64 (p3 + 1)]] W fun e w' => e = .returned (.bool false) ∧ Below W.heap.size W w')) :
    Calls Try.prog 4 #[.agg #[.int .i64 s, .int .i64 a, .int .i64 b, .int .i64 c], .agg #[.int .i64 x, .int .i64 y, .int .i64 z], .agg #[.int .i64 u, .int .i64 v, .int .i64 t]] w fun e w' => e = .returned (.bool true) ∧ Below w.heap.size w w' := by
  go_enter Try.func4, Try.ntmps4
  go_wp2_with fail
  refine (awake_any _).mono ?_
  rintro e w1 ⟨rfl, hb1⟩
  obtain ⟨hc1, hz1⟩ := bcell hb1
  have s1 : w.heap.size + 1 + 1 < w1.heap.size := by have := hb1.size; simp at this; omega
  have s1' : w.heap.size + 1 < w1.heap.size := by omega
  have s1'' : w.heap.size < w1.heap.size := by omega
  go_wp2_with fail
  refine (S.out _).mono ?_
  rintro e w2 ⟨rfl, hb2⟩
  obtain ⟨hc2, hz2⟩ := bcell hb2
  have z2_0 : w.heap.size < w2.heap.size := by have := hb2.size; (first | omega | (simp at this; omega))
  have z2_1 : w.heap.size + 1 < w2.heap.size := by have := hb2.size; (first | omega | (simp at this; omega))
  have z2_2 : w.heap.size + 1 + 1 < w2.heap.size := by have := hb2.size; (first | omega | (simp at this; omega))
  go_wp2_with fail
  refine (S2.out _).mono ?_
  rintro e w3 ⟨rfl, hb3⟩
  obtain ⟨hc3, hz3⟩ := bcell hb3
  have z3_0 : w.heap.size < w3.heap.size := by have := hb3.size; (first | omega | (simp at this; omega))
  have z3_1 : w.heap.size + 1 < w3.heap.size := by have := hb3.size; (first | omega | (simp at this; omega))
  have z3_2 : w.heap.size + 1 + 1 < w3.heap.size := by have := hb3.size; (first | omega | (simp at this; omega))
  have z3_3 : w2.heap.size < w3.heap.size := by have := hb3.size; (first | omega | (simp at this; omega))
  have k0 : w3.cell? ⟨w.heap.size + 1, 0, none⟩ = some (.int .i64 x) := by go_simp
  have k1 : w3.cell? ⟨w.heap.size + 1, 1, none⟩ = some (.int .i64 y) := by go_simp
  have k2 : w3.cell? ⟨w.heap.size + 1, 2, none⟩ = some (.int .i64 z) := by go_simp
  have k3 : w3.cell? ⟨w.heap.size + 1 + 1, 0, none⟩ = some (.int .i64 u) := by go_simp
  have k4 : w3.cell? ⟨w.heap.size + 1 + 1, 1, none⟩ = some (.int .i64 v) := by go_simp
  have k5 : w3.cell? ⟨w.heap.size + 1 + 1, 2, none⟩ = some (.int .i64 t) := by go_simp
  have k6 : w3.cell? ⟨w2.heap.size, 0, none⟩ = some (.int .i64 p1) := by go_simp
  have k7 : w3.cell? ⟨w2.heap.size, 1, none⟩ = some (.int .i64 p2) := by go_simp
  have k8 : w3.cell? ⟨w2.heap.size, 2, none⟩ = some (.int .i64 p3) := by go_simp
  have RL := ((Rw.new' (w := w) (t := 25) [.int .i64 s, .int .i64 a, .int .i64 b, .int .i64 c] rfl).alloc (.cells #[.int .i64 x, .int .i64 y, .int .i64 z] 22)).alloc (.cells #[.int .i64 u, .int .i64 v, .int .i64 t] 22)
  have RL := ((RL.below hb1 (by first | (simp; done) | (simp; omega) | omega)).below hb2 s1'').alloc (.cells #[.int .i64 p1, .int .i64 p2, .int .i64 p3] 23)
  have RL := RL.below hb3 (by first | (simp; done) | (simp; omega) | omega)
  have RX := (Rw.new' (w := w.alloc (.cells #[.int .i64 s, .int .i64 a, .int .i64 b, .int .i64 c] 25)) (t := 22) (b := w.heap.size + 1) (i3 x y z) (by first | (simp; done) | (simp; omega) | omega)).alloc (.cells #[.int .i64 u, .int .i64 v, .int .i64 t] 22)
  have RX := ((RX.below hb1 (by first | (simp; done) | (simp; omega) | omega)).below hb2 s1').alloc (.cells #[.int .i64 p1, .int .i64 p2, .int .i64 p3] 23)
  have RX := RX.below hb3 (by first | (simp; done) | (simp; omega) | omega)
  have RP := (Rw.new' (w := w2) (t := 23) (i3 p1 p2 p3) rfl).below hb3 (by first | (simp; done) | (simp; omega) | omega)
  have HW3 : Hid (Below w.heap.size w w3) := by
    show Below w.heap.size w w3
    (repeat (first | with_reducible exact Below.refl _ _ | with_reducible assumption | with_reducible refine below_drewN ?_ _ | with_reducible refine Below.drew ?_ | with_reducible refine Below.alloc ?_ (by first | exact Nat.le_refl _ | (simp; done) | (simp; omega) | omega) _ | with_reducible refine Below.setCell ?_ (by first | exact Nat.le_refl _ | (simp; done) | (simp; omega) | omega) _ | with_reducible refine Below.trans ?_ (Below.mono (by with_reducible assumption) (by first | exact Nat.le_refl _ | (simp; done) | (simp; omega) | omega))))
  have HRL := Lib.hid RL
  have HRX := Lib.hid RX
  have HRP := Lib.hid RP
  clear RL RX RP hb1 hb2 hb3 hc1 hz1 hc2 hz2 hc3 hz3
  go_wp2
  go_loopw [11] (fun i wr => ∃ n : Nat, wr = (w3.alloc (.cells #[.int .i64 q1, .int .i64 q2, .int .i64 q3] 23)).drewN n ∧ (i = .int .i64 0 ∨ i = .int .i64 1 ∨ i = .int .i64 2 ∨ i = .int .i64 3)) (fun i _ => 3 - (intOf i).toNat)
  case atStart => exact ⟨0, rfl, .inl rfl⟩
  case round =>
    obtain ⟨n, rfl, hi⟩ := hrel
    rcases hi with rfl | rfl | rfl | rfl
    · unfold ordOk at o1
      rcases o1 with ⟨g1, g2⟩ | ⟨g1, g2⟩ | ⟨g1, g2⟩
      · have d1 : decide (x ≤ u) = true := by simp; omega
        have d2 : decide (q1 < p1) = false := by simp; omega
        have d3 : decide (u ≤ x) = false := by simp; omega
        go_wp2
        go_quiet (fail)
        go_wp2
        go_roundw
        case rel => exact ⟨_, rfl, .inr (.inl rfl)⟩
        case measure => simp [intOf]
      · have d1 : decide (x ≤ u) = false := by simp; omega
        have d3 : decide (u ≤ x) = true := by simp; omega
        have d2 : decide (p1 < q1) = false := by simp; omega
        go_wp2
        go_quiet (fail)
        go_wp2
        go_roundw
        case rel => exact ⟨_, rfl, .inr (.inl rfl)⟩
        case measure => simp [intOf]
      · have d1 : decide (x ≤ u) = true := by simp; omega
        have d3 : decide (u ≤ x) = true := by simp; omega
        have d2 : decide (p1 < q1) = false := by simp; omega
        have d4 : decide (q1 < p1) = false := by simp; omega
        clear g1 g2
        go_wp2
        go_quiet (fail)
        go_wp2
        go_roundw
        case rel => exact ⟨_, rfl, .inr (.inl rfl)⟩
        case measure => simp [intOf]
    · unfold ordOk at o2
      rcases o2 with ⟨g1, g2⟩ | ⟨g1, g2⟩ | ⟨g1, g2⟩
      · have d1 : decide (y ≤ v) = true := by simp; omega
        have d2 : decide (q2 < p2) = false := by simp; omega
        have d3 : decide (v ≤ y) = false := by simp; omega
        go_wp2
        go_quiet (fail)
        go_wp2
        go_roundw
        case rel => exact ⟨_, rfl, .inr (.inr (.inl rfl))⟩
        case measure => simp [intOf]
      · have d1 : decide (y ≤ v) = false := by simp; omega
        have d3 : decide (v ≤ y) = true := by simp; omega
        have d2 : decide (p2 < q2) = false := by simp; omega
        go_wp2
        go_quiet (fail)
        go_wp2
        go_roundw
        case rel => exact ⟨_, rfl, .inr (.inr (.inl rfl))⟩
        case measure => simp [intOf]
      · have d1 : decide (y ≤ v) = true := by simp; omega
        have d3 : decide (v ≤ y) = true := by simp; omega
        have d2 : decide (p2 < q2) = false := by simp; omega
        have d4 : decide (q2 < p2) = false := by simp; omega
        clear g1 g2
        go_wp2
        go_quiet (fail)
        go_wp2
        go_roundw
        case rel => exact ⟨_, rfl, .inr (.inr (.inl rfl))⟩
        case measure => simp [intOf]
    · unfold ordOk at o3
      rcases o3 with ⟨g1, g2⟩ | ⟨g1, g2⟩ | ⟨g1, g2⟩
      · have d1 : decide (z ≤ t) = true := by simp; omega
        have d2 : decide (q3 < p3) = false := by simp; omega
        have d3 : decide (t ≤ z) = false := by simp; omega
        go_wp2
        go_quiet (fail)
        go_wp2
        go_roundw
        case rel => exact ⟨_, rfl, .inr (.inr (.inr rfl))⟩
        case measure => simp [intOf]
      · have d1 : decide (z ≤ t) = false := by simp; omega
        have d3 : decide (t ≤ z) = true := by simp; omega
        have d2 : decide (p3 < q3) = false := by simp; omega
        go_wp2
        go_quiet (fail)
        go_wp2
        go_roundw
        case rel => exact ⟨_, rfl, .inr (.inr (.inr rfl))⟩
        case measure => simp [intOf]
      · have d1 : decide (z ≤ t) = true := by simp; omega
        have d3 : decide (t ≤ z) = true := by simp; omega
        have d2 : decide (p3 < q3) = false := by simp; omega
        have d4 : decide (q3 < p3) = false := by simp; omega
        clear g1 g2
        go_wp2
        go_quiet (fail)
        go_wp2
        go_roundw
        case rel => exact ⟨_, rfl, .inr (.inr (.inr rfl))⟩
        case measure => simp [intOf]
    go_wp2
    go_loopw [14] (fun i wr => OrdRel s a b c x y z p1 p2 p3 w.heap.size w2.heap.size w3.heap.size w3 i wr) (fun i _ => 3 - (intOf i).toNat)
    case atStart =>
      refine .inl ⟨rfl, by (repeat (first | with_reducible exact Below.refl _ _ | with_reducible assumption | with_reducible refine below_drewN ?_ _ | with_reducible refine Below.drew ?_ | with_reducible refine Below.alloc ?_ (by first | exact Nat.le_refl _ | (simp; done) | (simp; omega) | omega) _ | with_reducible refine Below.setCell ?_ (by first | exact Nat.le_refl _ | (simp; done) | (simp; omega) | omega) _ | with_reducible refine Below.trans ?_ (Below.mono (by with_reducible assumption) (by first | exact Nat.le_refl _ | (simp; done) | (simp; omega) | omega)))), (((HRL.out.alloc (.cells #[.int .i64 q1, .int .i64 q2, .int .i64 q3] 23)).drewN n).alloc _).alloc _, (((HRX.out.alloc (.cells #[.int .i64 q1, .int .i64 q2, .int .i64 q3] 23)).drewN n).alloc _).alloc _, (((HRP.out.alloc (.cells #[.int .i64 q1, .int .i64 q2, .int .i64 q3] 23)).drewN n).alloc _).alloc _, ?_, ?_⟩
      · exact (Rw.new' (i3 0 0 0) (by first | (simp; done) | (simp; omega) | omega)).alloc _
      · exact Rw.new' (i3 0 0 0) (by first | (simp; done) | (simp; omega) | omega)
    case round =>
      rcases hrel with ⟨rfl, hA⟩ | ⟨rfl, hA⟩ | ⟨rfl, hA⟩ | ⟨rfl, hA⟩
      · obtain ⟨hb, rl, rx, rp, rc, rn⟩ := hA
        have cx : wr.cell? ⟨w.heap.size + 1, 0, none⟩ = some (.int .i64 x) := rx.cell 0
        have cs : wr.cell? ⟨w.heap.size, 0, none⟩ = some (.int .i64 s) := rl.cell 0
        have cp : wr.cell? ⟨w2.heap.size, 0, none⟩ = some (.int .i64 p1) := rp.cell 0
        have cc : wr.cell? ⟨w3.heap.size + 1, 0, none⟩ = some (.int .i64 0) := rc.cell 0
        have fc : wr.frozen? ⟨w3.heap.size + 1, 0, none⟩ = false := rc.frozen 0
        have cn : wr.cell? ⟨w3.heap.size + 1 + 1, 0, none⟩ = some (.int .i64 0) := rn.cell 0
        have fn : wr.frozen? ⟨w3.heap.size + 1 + 1, 0, none⟩ = false := rn.frozen 0
        have HB := Lib.hid hb
        have HL := Lib.hid rl
        have HX := Lib.hid rx
        have HP := Lib.hid rp
        have HC := Lib.hid rc
        have HN := Lib.hid rn
        clear hb rl rx rp rc rn
        go_wp2
        go_region
        go_wp2
        refine ⟨.inr (.inl ⟨rfl, ?_⟩), by simp [intOf]⟩
        have hb := HB.out
        refine ⟨by (repeat (first | with_reducible exact Below.refl _ _ | with_reducible assumption | with_reducible refine below_drewN ?_ _ | with_reducible refine Below.drew ?_ | with_reducible refine Below.alloc ?_ (by first | exact Nat.le_refl _ | (simp; done) | (simp; omega) | omega) _ | with_reducible refine Below.setCell ?_ (by first | exact Nat.le_refl _ | (simp; done) | (simp; omega) | omega) _ | with_reducible refine Below.trans ?_ (Below.mono (by with_reducible assumption) (by first | exact Nat.le_refl _ | (simp; done) | (simp; omega) | omega)))), ((HL.out.far (by first | (simp; done) | (simp; omega) | omega) _).far (by first | (simp; done) | (simp; omega) | omega) _).drew, ((HX.out.far (by first | (simp; done) | (simp; omega) | omega) _).far (by first | (simp; done) | (simp; omega) | omega) _).drew, ((HP.out.far (by first | (simp; done) | (simp; omega) | omega) _).far (by first | (simp; done) | (simp; omega) | omega) _).drew, ?_, ?_⟩
        · exact ((HC.out.set 0 _).far (by first | (simp; done) | (simp; omega) | omega) _).drew
        · exact ((HN.out.far (by first | (simp; done) | (simp; omega) | omega) _).set 0 _).drew
      · obtain ⟨hb, rl, rx, rp, rc, rn⟩ := hA
        have cx : wr.cell? ⟨w.heap.size + 1, 1, none⟩ = some (.int .i64 y) := rx.cell 1
        have cs : wr.cell? ⟨w.heap.size, 0, none⟩ = some (.int .i64 s) := rl.cell 0
        have cp : wr.cell? ⟨w2.heap.size, 1, none⟩ = some (.int .i64 p2) := rp.cell 1
        have cc : wr.cell? ⟨w3.heap.size + 1, 1, none⟩ = some (.int .i64 0) := rc.cell 1
        have fc : wr.frozen? ⟨w3.heap.size + 1, 1, none⟩ = false := rc.frozen 1
        have cn : wr.cell? ⟨w3.heap.size + 1 + 1, 1, none⟩ = some (.int .i64 0) := rn.cell 1
        have fn : wr.frozen? ⟨w3.heap.size + 1 + 1, 1, none⟩ = false := rn.frozen 1
        have HB := Lib.hid hb
        have HL := Lib.hid rl
        have HX := Lib.hid rx
        have HP := Lib.hid rp
        have HC := Lib.hid rc
        have HN := Lib.hid rn
        clear hb rl rx rp rc rn
        go_wp2
        go_region
        go_wp2
        refine ⟨.inr (.inr (.inl ⟨rfl, ?_⟩)), by simp [intOf]⟩
        have hb := HB.out
        refine ⟨by (repeat (first | with_reducible exact Below.refl _ _ | with_reducible assumption | with_reducible refine below_drewN ?_ _ | with_reducible refine Below.drew ?_ | with_reducible refine Below.alloc ?_ (by first | exact Nat.le_refl _ | (simp; done) | (simp; omega) | omega) _ | with_reducible refine Below.setCell ?_ (by first | exact Nat.le_refl _ | (simp; done) | (simp; omega) | omega) _ | with_reducible refine Below.trans ?_ (Below.mono (by with_reducible assumption) (by first | exact Nat.le_refl _ | (simp; done) | (simp; omega) | omega)))), ((HL.out.far (by first | (simp; done) | (simp; omega) | omega) _).far (by first | (simp; done) | (simp; omega) | omega) _).drew, ((HX.out.far (by first | (simp; done) | (simp; omega) | omega) _).far (by first | (simp; done) | (simp; omega) | omega) _).drew, ((HP.out.far (by first | (simp; done) | (simp; omega) | omega) _).far (by first | (simp; done) | (simp; omega) | omega) _).drew, ?_, ?_⟩
        · exact ((HC.out.set 1 _).far (by first | (simp; done) | (simp; omega) | omega) _).drew
        · exact ((HN.out.far (by first | (simp; done) | (simp; omega) | omega) _).set 1 _).drew
      · obtain ⟨hb, rl, rx, rp, rc, rn⟩ := hA
        have cx : wr.cell? ⟨w.heap.size + 1, 2, none⟩ = some (.int .i64 z) := rx.cell 2
        have cs : wr.cell? ⟨w.heap.size, 0, none⟩ = some (.int .i64 s) := rl.cell 0
        have cp : wr.cell? ⟨w2.heap.size, 2, none⟩ = some (.int .i64 p3) := rp.cell 2
        have cc : wr.cell? ⟨w3.heap.size + 1, 2, none⟩ = some (.int .i64 0) := rc.cell 2
        have fc : wr.frozen? ⟨w3.heap.size + 1, 2, none⟩ = false := rc.frozen 2
        have cn : wr.cell? ⟨w3.heap.size + 1 + 1, 2, none⟩ = some (.int .i64 0) := rn.cell 2
        have fn : wr.frozen? ⟨w3.heap.size + 1 + 1, 2, none⟩ = false := rn.frozen 2
        have HB := Lib.hid hb
        have HL := Lib.hid rl
        have HX := Lib.hid rx
        have HP := Lib.hid rp
        have HC := Lib.hid rc
        have HN := Lib.hid rn
        clear hb rl rx rp rc rn
        go_wp2
        go_region
        go_wp2
        refine ⟨.inr (.inr (.inr ⟨rfl, ?_⟩)), by simp [intOf]⟩
        have hb := HB.out
        refine ⟨by (repeat (first | with_reducible exact Below.refl _ _ | with_reducible assumption | with_reducible refine below_drewN ?_ _ | with_reducible refine Below.drew ?_ | with_reducible refine Below.alloc ?_ (by first | exact Nat.le_refl _ | (simp; done) | (simp; omega) | omega) _ | with_reducible refine Below.setCell ?_ (by first | exact Nat.le_refl _ | (simp; done) | (simp; omega) | omega) _ | with_reducible refine Below.trans ?_ (Below.mono (by with_reducible assumption) (by first | exact Nat.le_refl _ | (simp; done) | (simp; omega) | omega)))), ((HL.out.far (by first | (simp; done) | (simp; omega) | omega) _).far (by first | (simp; done) | (simp; omega) | omega) _).drew, ((HX.out.far (by first | (simp; done) | (simp; omega) | omega) _).far (by first | (simp; done) | (simp; omega) | omega) _).drew, ((HP.out.far (by first | (simp; done) | (simp; omega) | omega) _).far (by first | (simp; done) | (simp; omega) | omega) _).drew, ?_, ?_⟩
        · exact ((HC.out.set 2 _).far (by first | (simp; done) | (simp; omega) | omega) _).drew
        · exact ((HN.out.far (by first | (simp; done) | (simp; omega) | omega) _).set 2 _).drew
      · obtain ⟨hb, rl, rx, rp, rc, rn⟩ := hA
        have l0 : wr.cell? ⟨w.heap.size, 0, none⟩ = some (.int .i64 s) := rl.cell 0
        have l1 : wr.cell? ⟨w.heap.size, 1, none⟩ = some (.int .i64 a) := rl.cell 1
        have l2 : wr.cell? ⟨w.heap.size, 2, none⟩ = some (.int .i64 b) := rl.cell 2
        have l3 : wr.cell? ⟨w.heap.size, 3, none⟩ = some (.int .i64 c) := rl.cell 3
        have e0 : wr.cell? ⟨w3.heap.size + 1, 0, none⟩ = some (.int .i64 (x + s)) := rc.cell 0
        have e1 : wr.cell? ⟨w3.heap.size + 1, 1, none⟩ = some (.int .i64 (y + s)) := rc.cell 1
        have e2 : wr.cell? ⟨w3.heap.size + 1, 2, none⟩ = some (.int .i64 (z + s)) := rc.cell 2
        have n0 : wr.cell? ⟨w3.heap.size + 1 + 1, 0, none⟩ = some (.int .i64 (p1 + 1)) := rn.cell 0
        have n1 : wr.cell? ⟨w3.heap.size + 1 + 1, 1, none⟩ = some (.int .i64 (p2 + 1)) := rn.cell 1
        have n2 : wr.cell? ⟨w3.heap.size + 1 + 1, 2, none⟩ = some (.int .i64 (p3 + 1)) := rn.cell 2
        have yy : w3.heap.size + 1 + 1 < wr.heap.size := rn.lt
        have HB := Lib.hid hb
        clear hb rl rx rp rc rn
        go_wp2_with fail
        refine (SC.out _).mono ?_
        rintro e w5 ⟨rfl, hb5⟩
        obtain ⟨hc5, hz5⟩ := bcell hb5
        have y5_0 : w3.heap.size < w5.heap.size := by have := hb5.size; (first | omega | (simp at this; omega))
        have y5_1 : w3.heap.size + 1 < w5.heap.size := by have := hb5.size; (first | omega | (simp at this; omega))
        have y5_2 : w3.heap.size + 1 + 1 < w5.heap.size := by have := hb5.size; (first | omega | (simp at this; omega))
        go_wp2_with fail
        refine (ON.out _).mono ?_
        rintro e w6 ⟨rfl, hb6⟩
        obtain ⟨hc6, hz6⟩ := bcell hb6
        have y6_3 : w5.heap.size < w6.heap.size := by have := hb6.size; (first | omega | (simp at this; omega))
        have y6_0 : w3.heap.size < w6.heap.size := by have := hb6.size; (first | omega | (simp at this; omega))
        have y6_1 : w3.heap.size + 1 < w6.heap.size := by have := hb6.size; (first | omega | (simp at this; omega))
        have y6_2 : w3.heap.size + 1 + 1 < w6.heap.size := by have := hb6.size; (first | omega | (simp at this; omega))
        go_wp2
        go_ret
        exact ⟨rfl, below_then (below_then (below_then HW3.out HB.out) hb5) ((Below.refl _ _).alloc (Nat.le_refl _) _ |>.trans (hb6.mono (by simp)))⟩
end Go.Proofs.Ytppkbnajpeoaaaa
