/- LatticeThree: plain facts and the law's walk. -/
import Derived.Test.YtppkbnajpeoaaaaB2
import Derived.Test.YtppkbnajpeoaaaaA7
import Derived.BigRegion
import Derived.RegionTactic
import Derived.Deep.RegionHeld3
namespace Go.Proofs.Ytppkbnajpeoaaaa
open Go.RowKit

structure OnB (a b c : Int) : Prop where
  a1 : -1048576 ≤ a
  a2 : a ≤ 1048576
  b1 : -1048576 ≤ b
  b2 : b ≤ 1048576
  c1 : -1048576 ≤ c
  c2 : c ≤ 1048576
theorem OnB.of {a b c : Int} (h : onPt a b c = true) : OnB a b c := by
  simp [onPt, inB] at h
  constructor <;> omega
theorem below_then {w a b : World} (h : Below w.heap.size w a) (k : Below a.heap.size a b) : Below w.heap.size w b := h.trans (k.mono h.size)
theorem Rw.drew {w : World} {b : Nat} {xs : List Value} (h : Rw w b xs) : Rw w.drew b xs := h
theorem Rw.new' {w : World} {t : TypeId} {b : Nat} (xs : List Value) (h : b = w.heap.size) : Rw (w.alloc (.cells xs.toArray t)) b xs := by subst h; exact Rw.new w t xs
def ad3 (k : Nat) (x y z u v t : Int) : List Value := i3 (if 0 < k then x + u else 0) (if 1 < k then y + v else 0) (if 2 < k then z + t else 0)
def db3 (k : Nat) (x y z : Int) : List Value := i3 (if 0 < k then 2 * x else 0) (if 1 < k then 2 * y else 0) (if 2 < k then 2 * z else 0)
theorem mx_le (a b c : Int) : mx a b ≤ c ↔ a ≤ c ∧ b ≤ c := by
  unfold mx
  split <;> omega
theorem le_mx (a b : Int) : a ≤ mx a b ∧ b ≤ mx a b := by
  unfold mx
  split <;> omega
theorem farC_three (a b c : Int) (ha : -1048576 ≤ a ∧ a ≤ 1048576) (hb : -1048576 ≤ b ∧ b ≤ 1048576) (hc : -1048576 ≤ c ∧ c ≤ 1048576) : farC a b ≤ farC a c + farC c b := by
  unfold farC
  (repeat' split) <;> omega
theorem farC_by (a b c : Int) : farC (a + c) (b + c) = farC a b := by
  unfold farC
  have e1 : b + c - (a + c) = b - a := by omega
  have e2 : a + c - (b + c) = a - b := by omega
  rw [e1, e2]
  (repeat' split) <;> omega
theorem farC_two (a b : Int) (ha : -1048576 ≤ a ∧ a ≤ 1048576) (hb : -1048576 ≤ b ∧ b ≤ 1048576) : farC (2 * a) (2 * b) = 2 * farC a b := by
  unfold farC
  (repeat' split) <;> omega
theorem mx_two (a b : Int) : mx (2 * a) (2 * b) = 2 * mx a b := by
  unfold mx
  (repeat' split) <;> omega
theorem farC_bd (a b : Int) (ha : -1048576 ≤ a ∧ a ≤ 1048576) (hb : -1048576 ≤ b ∧ b ≤ 1048576) : farC a b ≤ 2097152 := by
  unfold farC
  (repeat' split) <;> omega
theorem farTo_parts (a b c x y z : Int) : farC a x ≤ farTo a b c x y z 3 ∧ farC b y ≤ farTo a b c x y z 3 ∧ farC c z ≤ farTo a b c x y z 3 := by
  have h1 := le_mx (mx (mx 0 (farC a x)) (farC b y)) (farC c z)
  have h2 := le_mx (mx 0 (farC a x)) (farC b y)
  have h3 := le_mx 0 (farC a x)
  show farC a x ≤ mx (mx (mx 0 (farC a x)) (farC b y)) (farC c z) ∧ farC b y ≤ mx (mx (mx 0 (farC a x)) (farC b y)) (farC c z) ∧ farC c z ≤ mx (mx (mx 0 (farC a x)) (farC b y)) (farC c z)
  omega
theorem farTo_le (a b c x y z d : Int) (h0 : 0 ≤ d) (h1 : farC a x ≤ d) (h2 : farC b y ≤ d) (h3 : farC c z ≤ d) : farTo a b c x y z 3 ≤ d := by
  show mx (mx (mx 0 (farC a x)) (farC b y)) (farC c z) ≤ d
  rw [mx_le, mx_le, mx_le]
  exact ⟨⟨⟨h0, h1⟩, h2⟩, h3⟩
theorem farTo_bd {a b c x y z : Int} (h : OnB a b c) (g : OnB x y z) : 0 ≤ farTo a b c x y z 3 ∧ farTo a b c x y z 3 ≤ 2097152 :=
  ⟨(farTo_nonneg _ _ _ _ _ _ 3).1, farTo_le _ _ _ _ _ _ _ (by omega) (farC_bd _ _ ⟨h.a1, h.a2⟩ ⟨g.a1, g.a2⟩) (farC_bd _ _ ⟨h.b1, h.b2⟩ ⟨g.b1, g.b2⟩) (farC_bd _ _ ⟨h.c1, h.c2⟩ ⟨g.c1, g.c2⟩)⟩
theorem farTo_three {a b c x y z u v t : Int} (h : OnB a b c) (g : OnB x y z) (k : OnB u v t) : farTo a b c x y z 3 ≤ farTo a b c u v t 3 + farTo u v t x y z 3 := by
  have h1 := farTo_parts a b c u v t
  have h2 := farTo_parts u v t x y z
  have h3 := farC_three a x u ⟨h.a1, h.a2⟩ ⟨g.a1, g.a2⟩ ⟨k.a1, k.a2⟩
  have h4 := farC_three b y v ⟨h.b1, h.b2⟩ ⟨g.b1, g.b2⟩ ⟨k.b1, k.b2⟩
  have h5 := farC_three c z t ⟨h.c1, h.c2⟩ ⟨g.c1, g.c2⟩ ⟨k.c1, k.c2⟩
  have h6 := (farTo_nonneg a b c u v t 3).1
  have h7 := (farTo_nonneg u v t x y z 3).1
  exact farTo_le _ _ _ _ _ _ _ (by omega) (by omega) (by omega) (by omega)
theorem farTo_by (a b c x y z u v t : Int) : farTo (a + u) (b + v) (c + t) (x + u) (y + v) (z + t) 3 = farTo a b c x y z 3 := by
  simp only [farTo, farC_by]
theorem farTo_two {a b c x y z : Int} (h : OnB a b c) (g : OnB x y z) : farTo (2 * a) (2 * b) (2 * c) (2 * x) (2 * y) (2 * z) 3 = 2 * farTo a b c x y z 3 := by
  simp only [farTo, farC_two a x ⟨h.a1, h.a2⟩ ⟨g.a1, g.a2⟩, farC_two b y ⟨h.b1, h.b2⟩ ⟨g.b1, g.b2⟩, farC_two c z ⟨h.c1, h.c2⟩ ⟨g.c1, g.c2⟩]
  have e := mx_two 0 (farC a x)
  rw [Int.mul_zero] at e
  rw [e, mx_two, mx_two]
structure ThreeAt (B : Nat) (p q r by_ : Int × Int × Int) (w5 : World) (k : Nat) (wr : World) : Prop where
  bel : Below w5.heap.size w5 wr
  pp : Rw wr B (i3 p.1 p.2.1 p.2.2)
  qq : Rw wr (B + 1) (i3 q.1 q.2.1 q.2.2)
  rr : Rw wr (B + 1 + 1) (i3 r.1 r.2.1 r.2.2)
  yy : Rw wr (B + 1 + 1 + 1) (i3 by_.1 by_.2.1 by_.2.2)
  aa : Rw wr w5.heap.size (ad3 k p.1 p.2.1 p.2.2 by_.1 by_.2.1 by_.2.2)
  bb : Rw wr (w5.heap.size + 1) (ad3 k q.1 q.2.1 q.2.2 by_.1 by_.2.1 by_.2.2)
  cc : Rw wr (w5.heap.size + 1 + 1) (db3 k p.1 p.2.1 p.2.2)
  dd : Rw wr (w5.heap.size + 1 + 1 + 1) (db3 k q.1 q.2.1 q.2.2)
def ThreeRel (B : Nat) (p q r by_ : Int × Int × Int) (w5 : World) (i : Value) (wr : World) : Prop :=
  (i = .int .i64 0 ∧ ThreeAt B p q r by_ w5 0 wr) ∨ (i = .int .i64 1 ∧ ThreeAt B p q r by_ w5 1 wr) ∨ (i = .int .i64 2 ∧ ThreeAt B p q r by_ w5 2 wr) ∨ (i = .int .i64 3 ∧ ThreeAt B p q r by_ w5 3 wr)

set_option maxHeartbeats 4000000 in
theorem three_on (p1 p2 p3 q1 q2 q3 r1 r2 r3 y1 y2 y3 : Int) (w : World) (hp : onPt p1 p2 p3 = true) (hq : onPt q1 q2 q3 = true) (hr : onPt r1 r2 r3 = true) (hy : onPt y1 y2 y3 = true)
    (f g1 g2 : Int) (hf : 0 ≤ f) (hf2 : f ≤ 2097152) (hg1 : 0 ≤ g1) (hg12 : g1 ≤ 2097152) (hg2 : 0 ≤ g2) (hg22 : g2 ≤ 2097152) (hle : f ≤ g1 + g2)
    (FPQ : Hid (∀ W, Calls Try.prog 17 #[.agg #[.int .i64 p1, .int .i64 p2, .int .i64 p3], .agg #[.int .i64 q1, .int .i64 q2, .int .i64 q3]] W fun e w' => e = .returned (.int .i64 f) ∧ Below W.heap.size W w'))
    (FPR : Hid (∀ W, Calls Try.prog 17 #[.agg #[.int .i64 p1, .int .i64 p2, .int .i64 p3], .agg #[.int .i64 r1, .int .i64 r2, .int .i64 r3]] W fun e w' => e = .returned (.int .i64 g1) ∧ Below W.heap.size W w'))
    (FRQ : Hid (∀ W, Calls Try.prog 17 #[.agg #[.int .i64 r1, .int .i64 r2, .int .i64 r3], .agg #[.int .i64 q1, .int .i64 q2, .int .i64 q3]] W fun e w' => e = .returned (.int .i64 g2) ∧ Below W.heap.size W w'))
    (FAB : Hid (∀ W, Calls Try.prog 17 #[.agg #[.int .i64 (p1 + y1), .int .i64 (p2 + y2), .int .i64 (p3 + y3)], .agg #[.int .i64 (q1 + y1), .int .i64 (q2 + y2), .int .i64 (q3 + y3)]] W fun e w' => e = .returned (.int .i64 f) ∧ Below W.heap.size W w'))
    (FCD : Hid (∀ W, Calls Try.prog 17 #[.agg #[.int .i64 (2 * p1), .int .i64 (2 * p2), .int .i64 (2 * p3)], .agg #[.int .i64 (2 * q1), .int .i64 (2 * q2), .int .i64 (2 * q3)]] W fun e w' => e = .returned (.int .i64 (2 * f)) ∧ Below W.heap.size W w')) :
    Calls Try.prog 6 #[.agg #[.int .i64 p1, .int .i64 p2, .int .i64 p3], .agg #[.int .i64 q1, .int .i64 q2, .int .i64 q3], .agg #[.int .i64 r1, .int .i64 r2, .int .i64 r3], .agg #[.int .i64 y1, .int .i64 y2, .int .i64 y3]] w fun e w' => e = .returned (.bool true) ∧ Below w.heap.size w w' := by
  have Onp : Hid (∀ W, Calls Try.prog 16 #[.agg #[.int .i64 p1, .int .i64 p2, .int .i64 p3]] W fun e w' => e = .returned (.bool true) ∧ Below W.heap.size W w') := fun W => by have := refOn_any p1 p2 p3 W; rw [hp] at this; exact this
  have Vp := OnB.of hp
  have ⟨pl1, ph1, pl2, ph2, pl3, ph3⟩ := Vp
  have Onq : Hid (∀ W, Calls Try.prog 16 #[.agg #[.int .i64 q1, .int .i64 q2, .int .i64 q3]] W fun e w' => e = .returned (.bool true) ∧ Below W.heap.size W w') := fun W => by have := refOn_any q1 q2 q3 W; rw [hq] at this; exact this
  have Vq := OnB.of hq
  have ⟨ql1, qh1, ql2, qh2, ql3, qh3⟩ := Vq
  have Onr : Hid (∀ W, Calls Try.prog 16 #[.agg #[.int .i64 r1, .int .i64 r2, .int .i64 r3]] W fun e w' => e = .returned (.bool true) ∧ Below W.heap.size W w') := fun W => by have := refOn_any r1 r2 r3 W; rw [hr] at this; exact this
  have Vr := OnB.of hr
  have ⟨rl1, rh1, rl2, rh2, rl3, rh3⟩ := Vr
  have Ony : Hid (∀ W, Calls Try.prog 16 #[.agg #[.int .i64 y1, .int .i64 y2, .int .i64 y3]] W fun e w' => e = .returned (.bool true) ∧ Below W.heap.size W w') := fun W => by have := refOn_any y1 y2 y3 W; rw [hy] at this; exact this
  have Vy := OnB.of hy
  have ⟨yl1, yh1, yl2, yh2, yl3, yh3⟩ := Vy
  clear hp hq hr hy
  go_enter Try.func6, Try.ntmps6
  go_wp2_with fail
  refine (awake_any _).mono ?_
  rintro e w1 ⟨rfl, hb1⟩
  obtain ⟨hc1, hz1⟩ := bcell hb1
  have s1 : w.heap.size + 1 + 1 + 1 < w1.heap.size := by have := hb1.size; simp at this; omega
  have s1a : w.heap.size + 1 + 1 < w1.heap.size := by omega
  have s1b : w.heap.size + 1 < w1.heap.size := by omega
  have s1c : w.heap.size < w1.heap.size := by omega
  have RP := (((Rw.new' (w := w) (t := 23) (i3 p1 p2 p3) rfl).alloc (.cells #[.int .i64 q1, .int .i64 q2, .int .i64 q3] 23)).alloc (.cells #[.int .i64 r1, .int .i64 r2, .int .i64 r3] 23)).alloc (.cells #[.int .i64 y1, .int .i64 y2, .int .i64 y3] 23)
  have RP := RP.below hb1 (by first | (simp; done) | (simp; omega) | omega)
  have RQ := ((Rw.new' (w := w.alloc (.cells #[.int .i64 p1, .int .i64 p2, .int .i64 p3] 23)) (t := 23) (b := w.heap.size + 1) (i3 q1 q2 q3) (by first | (simp; done) | (simp; omega) | omega)).alloc (.cells #[.int .i64 r1, .int .i64 r2, .int .i64 r3] 23)).alloc (.cells #[.int .i64 y1, .int .i64 y2, .int .i64 y3] 23)
  have RQ := RQ.below hb1 (by first | (simp; done) | (simp; omega) | omega)
  have RR := (Rw.new' (w := (w.alloc (.cells #[.int .i64 p1, .int .i64 p2, .int .i64 p3] 23)).alloc (.cells #[.int .i64 q1, .int .i64 q2, .int .i64 q3] 23)) (t := 23) (b := w.heap.size + 1 + 1) (i3 r1 r2 r3) (by first | (simp; done) | (simp; omega) | omega)).alloc (.cells #[.int .i64 y1, .int .i64 y2, .int .i64 y3] 23)
  have RR := RR.below hb1 (by first | (simp; done) | (simp; omega) | omega)
  have RY := Rw.new' (w := ((w.alloc (.cells #[.int .i64 p1, .int .i64 p2, .int .i64 p3] 23)).alloc (.cells #[.int .i64 q1, .int .i64 q2, .int .i64 q3] 23)).alloc (.cells #[.int .i64 r1, .int .i64 r2, .int .i64 r3] 23)) (t := 23) (b := w.heap.size + 1 + 1 + 1) (i3 y1 y2 y3) (by first | (simp; done) | (simp; omega) | omega)
  have RY := RY.below hb1 (by first | (simp; done) | (simp; omega) | omega)
  have HRP := Lib.hid RP
  have HRQ := Lib.hid RQ
  have HRR := Lib.hid RR
  have HRY := Lib.hid RY
  clear RP RQ RR RY
  go_wp2_with fail
  refine (Onp.out _).mono ?_
  rintro e w2 ⟨rfl, hb2⟩
  obtain ⟨hc2, hz2⟩ := bcell hb2
  have s2 : w.heap.size + 1 + 1 + 1 < w2.heap.size := by have := hb2.size; omega
  have s2a : w.heap.size + 1 + 1 < w2.heap.size := by omega
  have s2b : w.heap.size + 1 < w2.heap.size := by omega
  have s2c : w.heap.size < w2.heap.size := by omega
  go_wp2_with fail
  refine (Onq.out _).mono ?_
  rintro e w3 ⟨rfl, hb3⟩
  obtain ⟨hc3, hz3⟩ := bcell hb3
  have s3 : w.heap.size + 1 + 1 + 1 < w3.heap.size := by have := hb3.size; omega
  have s3a : w.heap.size + 1 + 1 < w3.heap.size := by omega
  have s3b : w.heap.size + 1 < w3.heap.size := by omega
  have s3c : w.heap.size < w3.heap.size := by omega
  go_wp2_with fail
  refine (Onr.out _).mono ?_
  rintro e w4 ⟨rfl, hb4⟩
  obtain ⟨hc4, hz4⟩ := bcell hb4
  have s4 : w.heap.size + 1 + 1 + 1 < w4.heap.size := by have := hb4.size; omega
  have s4a : w.heap.size + 1 + 1 < w4.heap.size := by omega
  have s4b : w.heap.size + 1 < w4.heap.size := by omega
  have s4c : w.heap.size < w4.heap.size := by omega
  go_wp2_with fail
  refine (Ony.out _).mono ?_
  rintro e w5 ⟨rfl, hb5⟩
  obtain ⟨hc5, hz5⟩ := bcell hb5
  have s5 : w.heap.size + 1 + 1 + 1 < w5.heap.size := by have := hb5.size; omega
  have s5a : w.heap.size + 1 + 1 < w5.heap.size := by omega
  have s5b : w.heap.size + 1 < w5.heap.size := by omega
  have s5c : w.heap.size < w5.heap.size := by omega
  have RP := Lib.hid ((((HRP.out.below hb2 s1c).below hb3 s2c).below hb4 s3c).below hb5 s4c)
  have RQ := Lib.hid ((((HRQ.out.below hb2 s1b).below hb3 s2b).below hb4 s3b).below hb5 s4b)
  have RR := Lib.hid ((((HRR.out.below hb2 s1a).below hb3 s2a).below hb4 s3a).below hb5 s4a)
  have RY := Lib.hid ((((HRY.out.below hb2 s1).below hb3 s2).below hb4 s3).below hb5 s4)
  have BB : Below w.heap.size w w5 := by (repeat (first | with_reducible exact Below.refl _ _ | with_reducible assumption | with_reducible refine below_drewN ?_ _ | with_reducible refine Below.drew ?_ | with_reducible refine Below.alloc ?_ (by first | exact Nat.le_refl _ | (simp; done) | (simp; omega) | omega) _ | with_reducible refine Below.setCell ?_ (by first | exact Nat.le_refl _ | (simp; done) | (simp; omega) | omega) _ | with_reducible refine Below.trans ?_ (Below.mono (by with_reducible assumption) (by first | exact Nat.le_refl _ | (simp; done) | (simp; omega) | omega))))
  have HBB := Lib.hid BB
  clear BB HRP HRQ HRR HRY
  clear hb1 hb2 hb3 hb4 hc1 hc2 hc3 hc4 hz1 hz2 hz3 hz4
  go_wp2
  go_loopw [13] (fun i wr => ThreeRel w.heap.size (p1, p2, p3) (q1, q2, q3) (r1, r2, r3) (y1, y2, y3) w5 i wr) (fun i _ => 3 - (intOf i).toNat)
  case atStart =>
    refine .inl ⟨rfl, by (repeat (first | with_reducible exact Below.refl _ _ | with_reducible assumption | with_reducible refine below_drewN ?_ _ | with_reducible refine Below.drew ?_ | with_reducible refine Below.alloc ?_ (by first | exact Nat.le_refl _ | (simp; done) | (simp; omega) | omega) _ | with_reducible refine Below.setCell ?_ (by first | exact Nat.le_refl _ | (simp; done) | (simp; omega) | omega) _ | with_reducible refine Below.trans ?_ (Below.mono (by with_reducible assumption) (by first | exact Nat.le_refl _ | (simp; done) | (simp; omega) | omega)))), (((RP.out.alloc _).alloc _).alloc _).alloc _, (((RQ.out.alloc _).alloc _).alloc _).alloc _, (((RR.out.alloc _).alloc _).alloc _).alloc _, (((RY.out.alloc _).alloc _).alloc _).alloc _, ?_, ?_, ?_, ?_⟩
    · exact (((Rw.new' (i3 0 0 0) rfl).alloc _).alloc _).alloc _
    · exact ((Rw.new' (i3 0 0 0) (by first | (simp; done) | (simp; omega) | omega)).alloc _).alloc _
    · exact (Rw.new' (i3 0 0 0) (by first | (simp; done) | (simp; omega) | omega)).alloc _
    · exact Rw.new' (i3 0 0 0) (by first | (simp; done) | (simp; omega) | omega)
  case round =>
    rcases hrel with ⟨rfl, hA⟩ | ⟨rfl, hA⟩ | ⟨rfl, hA⟩ | ⟨rfl, hA⟩
    · obtain ⟨hb, rp, rq, rr, ry, ra, rb, rc, rd⟩ := hA
      have cp : wr.cell? ⟨w.heap.size, 0, none⟩ = some (.int .i64 p1) := rp.cell 0
      have cq : wr.cell? ⟨w.heap.size + 1, 0, none⟩ = some (.int .i64 q1) := rq.cell 0
      have cy : wr.cell? ⟨w.heap.size + 1 + 1 + 1, 0, none⟩ = some (.int .i64 y1) := ry.cell 0
      have ca : wr.cell? ⟨w5.heap.size, 0, none⟩ = some (.int .i64 0) := ra.cell 0
      have fa : wr.frozen? ⟨w5.heap.size, 0, none⟩ = false := ra.frozen 0
      have cb : wr.cell? ⟨w5.heap.size + 1, 0, none⟩ = some (.int .i64 0) := rb.cell 0
      have fb : wr.frozen? ⟨w5.heap.size + 1, 0, none⟩ = false := rb.frozen 0
      have cc : wr.cell? ⟨w5.heap.size + 1 + 1, 0, none⟩ = some (.int .i64 0) := rc.cell 0
      have fc : wr.frozen? ⟨w5.heap.size + 1 + 1, 0, none⟩ = false := rc.frozen 0
      have cd : wr.cell? ⟨w5.heap.size + 1 + 1 + 1, 0, none⟩ = some (.int .i64 0) := rd.cell 0
      have fd : wr.frozen? ⟨w5.heap.size + 1 + 1 + 1, 0, none⟩ = false := rd.frozen 0
      have HB := Lib.hid hb
      have HR := Lib.hid rr
      have HB' := Lib.hid rb
      have HP := Lib.hid rp
      have HQ := Lib.hid rq
      have HY := Lib.hid ry
      have HA := Lib.hid ra
      have HC := Lib.hid rc
      have HD := Lib.hid rd
      clear hb rp rq rr ry ra rb rc rd
      go_wp2
      go_region
      go_wp2
      go_region
      go_wp2
      refine ⟨.inr (.inl ⟨rfl, ?_⟩), by simp [intOf]⟩
      have hb := HB.out
      refine ⟨by (repeat (first | with_reducible exact Below.refl _ _ | with_reducible assumption | with_reducible refine below_drewN ?_ _ | with_reducible refine Below.drew ?_ | with_reducible refine Below.alloc ?_ (by first | exact Nat.le_refl _ | (simp; done) | (simp; omega) | omega) _ | with_reducible refine Below.setCell ?_ (by first | exact Nat.le_refl _ | (simp; done) | (simp; omega) | omega) _ | with_reducible refine Below.trans ?_ (Below.mono (by with_reducible assumption) (by first | exact Nat.le_refl _ | (simp; done) | (simp; omega) | omega)))), ((((HP.out.far (by first | (simp; done) | (simp; omega) | omega) _).far (by first | (simp; done) | (simp; omega) | omega) _).far (by first | (simp; done) | (simp; omega) | omega) _).far (by first | (simp; done) | (simp; omega) | omega) _).drew.drew, ((((HQ.out.far (by first | (simp; done) | (simp; omega) | omega) _).far (by first | (simp; done) | (simp; omega) | omega) _).far (by first | (simp; done) | (simp; omega) | omega) _).far (by first | (simp; done) | (simp; omega) | omega) _).drew.drew, ((((HR.out.far (by first | (simp; done) | (simp; omega) | omega) _).far (by first | (simp; done) | (simp; omega) | omega) _).far (by first | (simp; done) | (simp; omega) | omega) _).far (by first | (simp; done) | (simp; omega) | omega) _).drew.drew, ((((HY.out.far (by first | (simp; done) | (simp; omega) | omega) _).far (by first | (simp; done) | (simp; omega) | omega) _).far (by first | (simp; done) | (simp; omega) | omega) _).far (by first | (simp; done) | (simp; omega) | omega) _).drew.drew, ?_, ?_, ?_, ?_⟩
      · exact ((((HA.out.set 0 _).far (by first | (simp; done) | (simp; omega) | omega) _).far (by first | (simp; done) | (simp; omega) | omega) _).far (by first | (simp; done) | (simp; omega) | omega) _).drew.drew
      · exact ((((HB'.out.far (by first | (simp; done) | (simp; omega) | omega) _).set 0 _).far (by first | (simp; done) | (simp; omega) | omega) _).far (by first | (simp; done) | (simp; omega) | omega) _).drew.drew
      · exact ((((HC.out.far (by first | (simp; done) | (simp; omega) | omega) _).far (by first | (simp; done) | (simp; omega) | omega) _).set 0 _).far (by first | (simp; done) | (simp; omega) | omega) _).drew.drew
      · exact ((((HD.out.far (by first | (simp; done) | (simp; omega) | omega) _).far (by first | (simp; done) | (simp; omega) | omega) _).far (by first | (simp; done) | (simp; omega) | omega) _).set 0 _).drew.drew
    · obtain ⟨hb, rp, rq, rr, ry, ra, rb, rc, rd⟩ := hA
      have cp : wr.cell? ⟨w.heap.size, 1, none⟩ = some (.int .i64 p2) := rp.cell 1
      have cq : wr.cell? ⟨w.heap.size + 1, 1, none⟩ = some (.int .i64 q2) := rq.cell 1
      have cy : wr.cell? ⟨w.heap.size + 1 + 1 + 1, 1, none⟩ = some (.int .i64 y2) := ry.cell 1
      have ca : wr.cell? ⟨w5.heap.size, 1, none⟩ = some (.int .i64 0) := ra.cell 1
      have fa : wr.frozen? ⟨w5.heap.size, 1, none⟩ = false := ra.frozen 1
      have cb : wr.cell? ⟨w5.heap.size + 1, 1, none⟩ = some (.int .i64 0) := rb.cell 1
      have fb : wr.frozen? ⟨w5.heap.size + 1, 1, none⟩ = false := rb.frozen 1
      have cc : wr.cell? ⟨w5.heap.size + 1 + 1, 1, none⟩ = some (.int .i64 0) := rc.cell 1
      have fc : wr.frozen? ⟨w5.heap.size + 1 + 1, 1, none⟩ = false := rc.frozen 1
      have cd : wr.cell? ⟨w5.heap.size + 1 + 1 + 1, 1, none⟩ = some (.int .i64 0) := rd.cell 1
      have fd : wr.frozen? ⟨w5.heap.size + 1 + 1 + 1, 1, none⟩ = false := rd.frozen 1
      have HB := Lib.hid hb
      have HR := Lib.hid rr
      have HB' := Lib.hid rb
      have HP := Lib.hid rp
      have HQ := Lib.hid rq
      have HY := Lib.hid ry
      have HA := Lib.hid ra
      have HC := Lib.hid rc
      have HD := Lib.hid rd
      clear hb rp rq rr ry ra rb rc rd
      go_wp2
      go_region
      go_wp2
      go_region
      go_wp2
      refine ⟨.inr (.inr (.inl ⟨rfl, ?_⟩)), by simp [intOf]⟩
      have hb := HB.out
      refine ⟨by (repeat (first | with_reducible exact Below.refl _ _ | with_reducible assumption | with_reducible refine below_drewN ?_ _ | with_reducible refine Below.drew ?_ | with_reducible refine Below.alloc ?_ (by first | exact Nat.le_refl _ | (simp; done) | (simp; omega) | omega) _ | with_reducible refine Below.setCell ?_ (by first | exact Nat.le_refl _ | (simp; done) | (simp; omega) | omega) _ | with_reducible refine Below.trans ?_ (Below.mono (by with_reducible assumption) (by first | exact Nat.le_refl _ | (simp; done) | (simp; omega) | omega)))), ((((HP.out.far (by first | (simp; done) | (simp; omega) | omega) _).far (by first | (simp; done) | (simp; omega) | omega) _).far (by first | (simp; done) | (simp; omega) | omega) _).far (by first | (simp; done) | (simp; omega) | omega) _).drew.drew, ((((HQ.out.far (by first | (simp; done) | (simp; omega) | omega) _).far (by first | (simp; done) | (simp; omega) | omega) _).far (by first | (simp; done) | (simp; omega) | omega) _).far (by first | (simp; done) | (simp; omega) | omega) _).drew.drew, ((((HR.out.far (by first | (simp; done) | (simp; omega) | omega) _).far (by first | (simp; done) | (simp; omega) | omega) _).far (by first | (simp; done) | (simp; omega) | omega) _).far (by first | (simp; done) | (simp; omega) | omega) _).drew.drew, ((((HY.out.far (by first | (simp; done) | (simp; omega) | omega) _).far (by first | (simp; done) | (simp; omega) | omega) _).far (by first | (simp; done) | (simp; omega) | omega) _).far (by first | (simp; done) | (simp; omega) | omega) _).drew.drew, ?_, ?_, ?_, ?_⟩
      · exact ((((HA.out.set 1 _).far (by first | (simp; done) | (simp; omega) | omega) _).far (by first | (simp; done) | (simp; omega) | omega) _).far (by first | (simp; done) | (simp; omega) | omega) _).drew.drew
      · exact ((((HB'.out.far (by first | (simp; done) | (simp; omega) | omega) _).set 1 _).far (by first | (simp; done) | (simp; omega) | omega) _).far (by first | (simp; done) | (simp; omega) | omega) _).drew.drew
      · exact ((((HC.out.far (by first | (simp; done) | (simp; omega) | omega) _).far (by first | (simp; done) | (simp; omega) | omega) _).set 1 _).far (by first | (simp; done) | (simp; omega) | omega) _).drew.drew
      · exact ((((HD.out.far (by first | (simp; done) | (simp; omega) | omega) _).far (by first | (simp; done) | (simp; omega) | omega) _).far (by first | (simp; done) | (simp; omega) | omega) _).set 1 _).drew.drew
    · obtain ⟨hb, rp, rq, rr, ry, ra, rb, rc, rd⟩ := hA
      have cp : wr.cell? ⟨w.heap.size, 2, none⟩ = some (.int .i64 p3) := rp.cell 2
      have cq : wr.cell? ⟨w.heap.size + 1, 2, none⟩ = some (.int .i64 q3) := rq.cell 2
      have cy : wr.cell? ⟨w.heap.size + 1 + 1 + 1, 2, none⟩ = some (.int .i64 y3) := ry.cell 2
      have ca : wr.cell? ⟨w5.heap.size, 2, none⟩ = some (.int .i64 0) := ra.cell 2
      have fa : wr.frozen? ⟨w5.heap.size, 2, none⟩ = false := ra.frozen 2
      have cb : wr.cell? ⟨w5.heap.size + 1, 2, none⟩ = some (.int .i64 0) := rb.cell 2
      have fb : wr.frozen? ⟨w5.heap.size + 1, 2, none⟩ = false := rb.frozen 2
      have cc : wr.cell? ⟨w5.heap.size + 1 + 1, 2, none⟩ = some (.int .i64 0) := rc.cell 2
      have fc : wr.frozen? ⟨w5.heap.size + 1 + 1, 2, none⟩ = false := rc.frozen 2
      have cd : wr.cell? ⟨w5.heap.size + 1 + 1 + 1, 2, none⟩ = some (.int .i64 0) := rd.cell 2
      have fd : wr.frozen? ⟨w5.heap.size + 1 + 1 + 1, 2, none⟩ = false := rd.frozen 2
      have HB := Lib.hid hb
      have HR := Lib.hid rr
      have HB' := Lib.hid rb
      have HP := Lib.hid rp
      have HQ := Lib.hid rq
      have HY := Lib.hid ry
      have HA := Lib.hid ra
      have HC := Lib.hid rc
      have HD := Lib.hid rd
      clear hb rp rq rr ry ra rb rc rd
      go_wp2
      go_region
      go_wp2
      go_region
      go_wp2
      refine ⟨.inr (.inr (.inr ⟨rfl, ?_⟩)), by simp [intOf]⟩
      have hb := HB.out
      refine ⟨by (repeat (first | with_reducible exact Below.refl _ _ | with_reducible assumption | with_reducible refine below_drewN ?_ _ | with_reducible refine Below.drew ?_ | with_reducible refine Below.alloc ?_ (by first | exact Nat.le_refl _ | (simp; done) | (simp; omega) | omega) _ | with_reducible refine Below.setCell ?_ (by first | exact Nat.le_refl _ | (simp; done) | (simp; omega) | omega) _ | with_reducible refine Below.trans ?_ (Below.mono (by with_reducible assumption) (by first | exact Nat.le_refl _ | (simp; done) | (simp; omega) | omega)))), ((((HP.out.far (by first | (simp; done) | (simp; omega) | omega) _).far (by first | (simp; done) | (simp; omega) | omega) _).far (by first | (simp; done) | (simp; omega) | omega) _).far (by first | (simp; done) | (simp; omega) | omega) _).drew.drew, ((((HQ.out.far (by first | (simp; done) | (simp; omega) | omega) _).far (by first | (simp; done) | (simp; omega) | omega) _).far (by first | (simp; done) | (simp; omega) | omega) _).far (by first | (simp; done) | (simp; omega) | omega) _).drew.drew, ((((HR.out.far (by first | (simp; done) | (simp; omega) | omega) _).far (by first | (simp; done) | (simp; omega) | omega) _).far (by first | (simp; done) | (simp; omega) | omega) _).far (by first | (simp; done) | (simp; omega) | omega) _).drew.drew, ((((HY.out.far (by first | (simp; done) | (simp; omega) | omega) _).far (by first | (simp; done) | (simp; omega) | omega) _).far (by first | (simp; done) | (simp; omega) | omega) _).far (by first | (simp; done) | (simp; omega) | omega) _).drew.drew, ?_, ?_, ?_, ?_⟩
      · exact ((((HA.out.set 2 _).far (by first | (simp; done) | (simp; omega) | omega) _).far (by first | (simp; done) | (simp; omega) | omega) _).far (by first | (simp; done) | (simp; omega) | omega) _).drew.drew
      · exact ((((HB'.out.far (by first | (simp; done) | (simp; omega) | omega) _).set 2 _).far (by first | (simp; done) | (simp; omega) | omega) _).far (by first | (simp; done) | (simp; omega) | omega) _).drew.drew
      · exact ((((HC.out.far (by first | (simp; done) | (simp; omega) | omega) _).far (by first | (simp; done) | (simp; omega) | omega) _).set 2 _).far (by first | (simp; done) | (simp; omega) | omega) _).drew.drew
      · exact ((((HD.out.far (by first | (simp; done) | (simp; omega) | omega) _).far (by first | (simp; done) | (simp; omega) | omega) _).far (by first | (simp; done) | (simp; omega) | omega) _).set 2 _).drew.drew
    · obtain ⟨hb, rp, rq, rr, ry, ra, rb, rc, rd⟩ := hA
      have sz : w5.heap.size + 1 + 1 + 1 < wr.heap.size := rd.lt
      have k0 : wr.cell? ⟨w.heap.size, 0, none⟩ = some (.int .i64 p1) := rp.cell 0
      have k1 : wr.cell? ⟨w.heap.size, 1, none⟩ = some (.int .i64 p2) := rp.cell 1
      have k2 : wr.cell? ⟨w.heap.size, 2, none⟩ = some (.int .i64 p3) := rp.cell 2
      have k3 : wr.cell? ⟨w.heap.size + 1, 0, none⟩ = some (.int .i64 q1) := rq.cell 0
      have k4 : wr.cell? ⟨w.heap.size + 1, 1, none⟩ = some (.int .i64 q2) := rq.cell 1
      have k5 : wr.cell? ⟨w.heap.size + 1, 2, none⟩ = some (.int .i64 q3) := rq.cell 2
      have k6 : wr.cell? ⟨w.heap.size + 1 + 1, 0, none⟩ = some (.int .i64 r1) := rr.cell 0
      have k7 : wr.cell? ⟨w.heap.size + 1 + 1, 1, none⟩ = some (.int .i64 r2) := rr.cell 1
      have k8 : wr.cell? ⟨w.heap.size + 1 + 1, 2, none⟩ = some (.int .i64 r3) := rr.cell 2
      have k9 : wr.cell? ⟨w5.heap.size, 0, none⟩ = some (.int .i64 (p1 + y1)) := ra.cell 0
      have k10 : wr.cell? ⟨w5.heap.size, 1, none⟩ = some (.int .i64 (p2 + y2)) := ra.cell 1
      have k11 : wr.cell? ⟨w5.heap.size, 2, none⟩ = some (.int .i64 (p3 + y3)) := ra.cell 2
      have k12 : wr.cell? ⟨w5.heap.size + 1, 0, none⟩ = some (.int .i64 (q1 + y1)) := rb.cell 0
      have k13 : wr.cell? ⟨w5.heap.size + 1, 1, none⟩ = some (.int .i64 (q2 + y2)) := rb.cell 1
      have k14 : wr.cell? ⟨w5.heap.size + 1, 2, none⟩ = some (.int .i64 (q3 + y3)) := rb.cell 2
      have k15 : wr.cell? ⟨w5.heap.size + 1 + 1, 0, none⟩ = some (.int .i64 (2 * p1)) := rc.cell 0
      have k16 : wr.cell? ⟨w5.heap.size + 1 + 1, 1, none⟩ = some (.int .i64 (2 * p2)) := rc.cell 1
      have k17 : wr.cell? ⟨w5.heap.size + 1 + 1, 2, none⟩ = some (.int .i64 (2 * p3)) := rc.cell 2
      have k18 : wr.cell? ⟨w5.heap.size + 1 + 1 + 1, 0, none⟩ = some (.int .i64 (2 * q1)) := rd.cell 0
      have k19 : wr.cell? ⟨w5.heap.size + 1 + 1 + 1, 1, none⟩ = some (.int .i64 (2 * q2)) := rd.cell 1
      have k20 : wr.cell? ⟨w5.heap.size + 1 + 1 + 1, 2, none⟩ = some (.int .i64 (2 * q3)) := rd.cell 2
      have HB := Lib.hid hb
      clear hb rp rq rr ry ra rb rc rd
      go_wp2_with fail
      refine (FPQ.out _).mono ?_
      rintro e w6 ⟨rfl, hb6⟩
      have sz6 : w5.heap.size + 1 + 1 + 1 < w6.heap.size := by have := hb6.size; omega
      have j0 : w6.cell? ⟨w.heap.size, 0, none⟩ = some (.int .i64 p1) := by rw [hb6.cell (by simp; omega)]; exact k0
      have j1 : w6.cell? ⟨w.heap.size, 1, none⟩ = some (.int .i64 p2) := by rw [hb6.cell (by simp; omega)]; exact k1
      have j2 : w6.cell? ⟨w.heap.size, 2, none⟩ = some (.int .i64 p3) := by rw [hb6.cell (by simp; omega)]; exact k2
      have j3 : w6.cell? ⟨w.heap.size + 1, 0, none⟩ = some (.int .i64 q1) := by rw [hb6.cell (by simp; omega)]; exact k3
      have j4 : w6.cell? ⟨w.heap.size + 1, 1, none⟩ = some (.int .i64 q2) := by rw [hb6.cell (by simp; omega)]; exact k4
      have j5 : w6.cell? ⟨w.heap.size + 1, 2, none⟩ = some (.int .i64 q3) := by rw [hb6.cell (by simp; omega)]; exact k5
      have j6 : w6.cell? ⟨w.heap.size + 1 + 1, 0, none⟩ = some (.int .i64 r1) := by rw [hb6.cell (by simp; omega)]; exact k6
      have j7 : w6.cell? ⟨w.heap.size + 1 + 1, 1, none⟩ = some (.int .i64 r2) := by rw [hb6.cell (by simp; omega)]; exact k7
      have j8 : w6.cell? ⟨w.heap.size + 1 + 1, 2, none⟩ = some (.int .i64 r3) := by rw [hb6.cell (by simp; omega)]; exact k8
      have j9 : w6.cell? ⟨w5.heap.size, 0, none⟩ = some (.int .i64 (p1 + y1)) := by rw [hb6.cell (by simp; omega)]; exact k9
      have j10 : w6.cell? ⟨w5.heap.size, 1, none⟩ = some (.int .i64 (p2 + y2)) := by rw [hb6.cell (by simp; omega)]; exact k10
      have j11 : w6.cell? ⟨w5.heap.size, 2, none⟩ = some (.int .i64 (p3 + y3)) := by rw [hb6.cell (by simp; omega)]; exact k11
      have j12 : w6.cell? ⟨w5.heap.size + 1, 0, none⟩ = some (.int .i64 (q1 + y1)) := by rw [hb6.cell (by simp; omega)]; exact k12
      have j13 : w6.cell? ⟨w5.heap.size + 1, 1, none⟩ = some (.int .i64 (q2 + y2)) := by rw [hb6.cell (by simp; omega)]; exact k13
      have j14 : w6.cell? ⟨w5.heap.size + 1, 2, none⟩ = some (.int .i64 (q3 + y3)) := by rw [hb6.cell (by simp; omega)]; exact k14
      have j15 : w6.cell? ⟨w5.heap.size + 1 + 1, 0, none⟩ = some (.int .i64 (2 * p1)) := by rw [hb6.cell (by simp; omega)]; exact k15
      have j16 : w6.cell? ⟨w5.heap.size + 1 + 1, 1, none⟩ = some (.int .i64 (2 * p2)) := by rw [hb6.cell (by simp; omega)]; exact k16
      have j17 : w6.cell? ⟨w5.heap.size + 1 + 1, 2, none⟩ = some (.int .i64 (2 * p3)) := by rw [hb6.cell (by simp; omega)]; exact k17
      have j18 : w6.cell? ⟨w5.heap.size + 1 + 1 + 1, 0, none⟩ = some (.int .i64 (2 * q1)) := by rw [hb6.cell (by simp; omega)]; exact k18
      have j19 : w6.cell? ⟨w5.heap.size + 1 + 1 + 1, 1, none⟩ = some (.int .i64 (2 * q2)) := by rw [hb6.cell (by simp; omega)]; exact k19
      have j20 : w6.cell? ⟨w5.heap.size + 1 + 1 + 1, 2, none⟩ = some (.int .i64 (2 * q3)) := by rw [hb6.cell (by simp; omega)]; exact k20
      clear k0 k1 k2 k3 k4 k5 k6 k7 k8 k9 k10 k11 k12 k13 k14 k15 k16 k17 k18 k19 k20
      go_wp2_with fail
      have e1 : IntKind.i64.wrap (g1 + g2) = g1 + g2 := IntWalk.i64_in _ (by omega)
      have e2 : IntKind.i64.wrap (2 * f) = 2 * f := IntWalk.i64_in _ (by omega)
      have e3 : decide (f ≤ g1 + g2) = true := by simpa using hle
      go_region_held3 (fun w' => w5.heap.size + 1 + 1 + 1 < w'.heap.size ∧ w'.cell? ⟨w.heap.size, 0, none⟩ = some (.int .i64 p1) ∧ w'.cell? ⟨w.heap.size, 1, none⟩ = some (.int .i64 p2) ∧ w'.cell? ⟨w.heap.size, 2, none⟩ = some (.int .i64 p3) ∧ w'.cell? ⟨w.heap.size + 1, 0, none⟩ = some (.int .i64 q1) ∧ w'.cell? ⟨w.heap.size + 1, 1, none⟩ = some (.int .i64 q2) ∧ w'.cell? ⟨w.heap.size + 1, 2, none⟩ = some (.int .i64 q3) ∧ w'.cell? ⟨w.heap.size + 1 + 1, 0, none⟩ = some (.int .i64 r1) ∧ w'.cell? ⟨w.heap.size + 1 + 1, 1, none⟩ = some (.int .i64 r2) ∧ w'.cell? ⟨w.heap.size + 1 + 1, 2, none⟩ = some (.int .i64 r3) ∧ w'.cell? ⟨w5.heap.size, 0, none⟩ = some (.int .i64 (p1 + y1)) ∧ w'.cell? ⟨w5.heap.size, 1, none⟩ = some (.int .i64 (p2 + y2)) ∧ w'.cell? ⟨w5.heap.size, 2, none⟩ = some (.int .i64 (p3 + y3)) ∧ w'.cell? ⟨w5.heap.size + 1, 0, none⟩ = some (.int .i64 (q1 + y1)) ∧ w'.cell? ⟨w5.heap.size + 1, 1, none⟩ = some (.int .i64 (q2 + y2)) ∧ w'.cell? ⟨w5.heap.size + 1, 2, none⟩ = some (.int .i64 (q3 + y3)) ∧ w'.cell? ⟨w5.heap.size + 1 + 1, 0, none⟩ = some (.int .i64 (2 * p1)) ∧ w'.cell? ⟨w5.heap.size + 1 + 1, 1, none⟩ = some (.int .i64 (2 * p2)) ∧ w'.cell? ⟨w5.heap.size + 1 + 1, 2, none⟩ = some (.int .i64 (2 * p3)) ∧ w'.cell? ⟨w5.heap.size + 1 + 1 + 1, 0, none⟩ = some (.int .i64 (2 * q1)) ∧ w'.cell? ⟨w5.heap.size + 1 + 1 + 1, 1, none⟩ = some (.int .i64 (2 * q2)) ∧ w'.cell? ⟨w5.heap.size + 1 + 1 + 1, 2, none⟩ = some (.int .i64 (2 * q3))) (first | go_keep | (go_split_ands; (refine ⟨Nat.lt_of_lt_of_le (by assumption) (Below.size (by assumption)), ?_, ?_, ?_, ?_, ?_, ?_, ?_, ?_, ?_, ?_, ?_, ?_, ?_, ?_, ?_, ?_, ?_, ?_, ?_, ?_, ?_⟩ <;> (refine (Below.cell (by assumption) (by simp; omega)).trans ?_; assumption))))
        (first | (go_at_call 17; ((with_reducible refine (FPR.out _).mono ?_); rintro e w7 ⟨rfl, hb7⟩)) | (go_at_call 17; ((with_reducible refine (FRQ.out _).mono ?_); rintro e w8 ⟨rfl, hb8⟩)) | (go_at_call 17; ((with_reducible refine (FAB.out _).mono ?_); rintro e w9 ⟨rfl, hb9⟩)) | (go_at_call 17; ((with_reducible refine (FCD.out _).mono ?_); rintro e w10 ⟨rfl, hb10⟩)))
      go_wp2
      go_ret
      exact ⟨ret_bool (by first | rfl | (simp; done)), below_then (below_then (below_then (below_then (below_then (below_then HBB.out HB.out) hb6).drew hb7) hb8) hb9) hb10⟩

set_option maxHeartbeats 1000000 in
theorem three_off0 (p1 p2 p3 q1 q2 q3 r1 r2 r3 y1 y2 y3 : Int) (w : World) (hp : onPt p1 p2 p3 = false) :
    Calls Try.prog 6 #[.agg #[.int .i64 p1, .int .i64 p2, .int .i64 p3], .agg #[.int .i64 q1, .int .i64 q2, .int .i64 q3], .agg #[.int .i64 r1, .int .i64 r2, .int .i64 r3], .agg #[.int .i64 y1, .int .i64 y2, .int .i64 y3]] w fun e w' => e = .returned (.bool true) ∧ Below w.heap.size w w' := by
  have Onp : Hid (∀ W, Calls Try.prog 16 #[.agg #[.int .i64 p1, .int .i64 p2, .int .i64 p3]] W fun e w' => e = .returned (.bool false) ∧ Below W.heap.size W w') := fun W => by have := refOn_any p1 p2 p3 W; rw [hp] at this; exact this
  clear hp
  go_enter Try.func6, Try.ntmps6
  go_wp2_with fail
  refine (awake_any _).mono ?_
  rintro e w1 ⟨rfl, hb1⟩
  obtain ⟨hc1, hz1⟩ := bcell hb1
  have s1 : w.heap.size + 1 + 1 + 1 < w1.heap.size := by have := hb1.size; simp at this; omega
  have s1a : w.heap.size + 1 + 1 < w1.heap.size := by omega
  have s1b : w.heap.size + 1 < w1.heap.size := by omega
  have s1c : w.heap.size < w1.heap.size := by omega
  go_wp2_with fail
  refine (Onp.out _).mono ?_
  rintro e w2 ⟨rfl, hb2⟩
  obtain ⟨hc2, hz2⟩ := bcell hb2
  have s2 : w.heap.size + 1 + 1 + 1 < w2.heap.size := by have := hb2.size; omega
  have s2a : w.heap.size + 1 + 1 < w2.heap.size := by omega
  have s2b : w.heap.size + 1 < w2.heap.size := by omega
  have s2c : w.heap.size < w2.heap.size := by omega
  go_wp2
  go_ret
  exact ⟨rfl, by (repeat (first | with_reducible exact Below.refl _ _ | with_reducible assumption | with_reducible refine below_drewN ?_ _ | with_reducible refine Below.drew ?_ | with_reducible refine Below.alloc ?_ (by first | exact Nat.le_refl _ | (simp; done) | (simp; omega) | omega) _ | with_reducible refine Below.setCell ?_ (by first | exact Nat.le_refl _ | (simp; done) | (simp; omega) | omega) _ | with_reducible refine Below.trans ?_ (Below.mono (by with_reducible assumption) (by first | exact Nat.le_refl _ | (simp; done) | (simp; omega) | omega))))⟩

set_option maxHeartbeats 1000000 in
theorem three_off1 (p1 p2 p3 q1 q2 q3 r1 r2 r3 y1 y2 y3 : Int) (w : World) (hp : onPt p1 p2 p3 = true) (hq : onPt q1 q2 q3 = false) :
    Calls Try.prog 6 #[.agg #[.int .i64 p1, .int .i64 p2, .int .i64 p3], .agg #[.int .i64 q1, .int .i64 q2, .int .i64 q3], .agg #[.int .i64 r1, .int .i64 r2, .int .i64 r3], .agg #[.int .i64 y1, .int .i64 y2, .int .i64 y3]] w fun e w' => e = .returned (.bool true) ∧ Below w.heap.size w w' := by
  have Onp : Hid (∀ W, Calls Try.prog 16 #[.agg #[.int .i64 p1, .int .i64 p2, .int .i64 p3]] W fun e w' => e = .returned (.bool true) ∧ Below W.heap.size W w') := fun W => by have := refOn_any p1 p2 p3 W; rw [hp] at this; exact this
  clear hp
  have Onq : Hid (∀ W, Calls Try.prog 16 #[.agg #[.int .i64 q1, .int .i64 q2, .int .i64 q3]] W fun e w' => e = .returned (.bool false) ∧ Below W.heap.size W w') := fun W => by have := refOn_any q1 q2 q3 W; rw [hq] at this; exact this
  clear hq
  go_enter Try.func6, Try.ntmps6
  go_wp2_with fail
  refine (awake_any _).mono ?_
  rintro e w1 ⟨rfl, hb1⟩
  obtain ⟨hc1, hz1⟩ := bcell hb1
  have s1 : w.heap.size + 1 + 1 + 1 < w1.heap.size := by have := hb1.size; simp at this; omega
  have s1a : w.heap.size + 1 + 1 < w1.heap.size := by omega
  have s1b : w.heap.size + 1 < w1.heap.size := by omega
  have s1c : w.heap.size < w1.heap.size := by omega
  go_wp2_with fail
  refine (Onp.out _).mono ?_
  rintro e w2 ⟨rfl, hb2⟩
  obtain ⟨hc2, hz2⟩ := bcell hb2
  have s2 : w.heap.size + 1 + 1 + 1 < w2.heap.size := by have := hb2.size; omega
  have s2a : w.heap.size + 1 + 1 < w2.heap.size := by omega
  have s2b : w.heap.size + 1 < w2.heap.size := by omega
  have s2c : w.heap.size < w2.heap.size := by omega
  go_wp2_with fail
  refine (Onq.out _).mono ?_
  rintro e w3 ⟨rfl, hb3⟩
  obtain ⟨hc3, hz3⟩ := bcell hb3
  have s3 : w.heap.size + 1 + 1 + 1 < w3.heap.size := by have := hb3.size; omega
  have s3a : w.heap.size + 1 + 1 < w3.heap.size := by omega
  have s3b : w.heap.size + 1 < w3.heap.size := by omega
  have s3c : w.heap.size < w3.heap.size := by omega
  go_wp2
  go_ret
  exact ⟨rfl, by (repeat (first | with_reducible exact Below.refl _ _ | with_reducible assumption | with_reducible refine below_drewN ?_ _ | with_reducible refine Below.drew ?_ | with_reducible refine Below.alloc ?_ (by first | exact Nat.le_refl _ | (simp; done) | (simp; omega) | omega) _ | with_reducible refine Below.setCell ?_ (by first | exact Nat.le_refl _ | (simp; done) | (simp; omega) | omega) _ | with_reducible refine Below.trans ?_ (Below.mono (by with_reducible assumption) (by first | exact Nat.le_refl _ | (simp; done) | (simp; omega) | omega))))⟩

set_option maxHeartbeats 1000000 in
theorem three_off2 (p1 p2 p3 q1 q2 q3 r1 r2 r3 y1 y2 y3 : Int) (w : World) (hp : onPt p1 p2 p3 = true) (hq : onPt q1 q2 q3 = true) (hr : onPt r1 r2 r3 = false) :
    Calls Try.prog 6 #[.agg #[.int .i64 p1, .int .i64 p2, .int .i64 p3], .agg #[.int .i64 q1, .int .i64 q2, .int .i64 q3], .agg #[.int .i64 r1, .int .i64 r2, .int .i64 r3], .agg #[.int .i64 y1, .int .i64 y2, .int .i64 y3]] w fun e w' => e = .returned (.bool true) ∧ Below w.heap.size w w' := by
  have Onp : Hid (∀ W, Calls Try.prog 16 #[.agg #[.int .i64 p1, .int .i64 p2, .int .i64 p3]] W fun e w' => e = .returned (.bool true) ∧ Below W.heap.size W w') := fun W => by have := refOn_any p1 p2 p3 W; rw [hp] at this; exact this
  clear hp
  have Onq : Hid (∀ W, Calls Try.prog 16 #[.agg #[.int .i64 q1, .int .i64 q2, .int .i64 q3]] W fun e w' => e = .returned (.bool true) ∧ Below W.heap.size W w') := fun W => by have := refOn_any q1 q2 q3 W; rw [hq] at this; exact this
  clear hq
  have Onr : Hid (∀ W, Calls Try.prog 16 #[.agg #[.int .i64 r1, .int .i64 r2, .int .i64 r3]] W fun e w' => e = .returned (.bool false) ∧ Below W.heap.size W w') := fun W => by have := refOn_any r1 r2 r3 W; rw [hr] at this; exact this
  clear hr
  go_enter Try.func6, Try.ntmps6
  go_wp2_with fail
  refine (awake_any _).mono ?_
  rintro e w1 ⟨rfl, hb1⟩
  obtain ⟨hc1, hz1⟩ := bcell hb1
  have s1 : w.heap.size + 1 + 1 + 1 < w1.heap.size := by have := hb1.size; simp at this; omega
  have s1a : w.heap.size + 1 + 1 < w1.heap.size := by omega
  have s1b : w.heap.size + 1 < w1.heap.size := by omega
  have s1c : w.heap.size < w1.heap.size := by omega
  go_wp2_with fail
  refine (Onp.out _).mono ?_
  rintro e w2 ⟨rfl, hb2⟩
  obtain ⟨hc2, hz2⟩ := bcell hb2
  have s2 : w.heap.size + 1 + 1 + 1 < w2.heap.size := by have := hb2.size; omega
  have s2a : w.heap.size + 1 + 1 < w2.heap.size := by omega
  have s2b : w.heap.size + 1 < w2.heap.size := by omega
  have s2c : w.heap.size < w2.heap.size := by omega
  go_wp2_with fail
  refine (Onq.out _).mono ?_
  rintro e w3 ⟨rfl, hb3⟩
  obtain ⟨hc3, hz3⟩ := bcell hb3
  have s3 : w.heap.size + 1 + 1 + 1 < w3.heap.size := by have := hb3.size; omega
  have s3a : w.heap.size + 1 + 1 < w3.heap.size := by omega
  have s3b : w.heap.size + 1 < w3.heap.size := by omega
  have s3c : w.heap.size < w3.heap.size := by omega
  go_wp2_with fail
  refine (Onr.out _).mono ?_
  rintro e w4 ⟨rfl, hb4⟩
  obtain ⟨hc4, hz4⟩ := bcell hb4
  have s4 : w.heap.size + 1 + 1 + 1 < w4.heap.size := by have := hb4.size; omega
  have s4a : w.heap.size + 1 + 1 < w4.heap.size := by omega
  have s4b : w.heap.size + 1 < w4.heap.size := by omega
  have s4c : w.heap.size < w4.heap.size := by omega
  go_wp2
  go_ret
  exact ⟨rfl, by (repeat (first | with_reducible exact Below.refl _ _ | with_reducible assumption | with_reducible refine below_drewN ?_ _ | with_reducible refine Below.drew ?_ | with_reducible refine Below.alloc ?_ (by first | exact Nat.le_refl _ | (simp; done) | (simp; omega) | omega) _ | with_reducible refine Below.setCell ?_ (by first | exact Nat.le_refl _ | (simp; done) | (simp; omega) | omega) _ | with_reducible refine Below.trans ?_ (Below.mono (by with_reducible assumption) (by first | exact Nat.le_refl _ | (simp; done) | (simp; omega) | omega))))⟩

set_option maxHeartbeats 1000000 in
theorem three_off3 (p1 p2 p3 q1 q2 q3 r1 r2 r3 y1 y2 y3 : Int) (w : World) (hp : onPt p1 p2 p3 = true) (hq : onPt q1 q2 q3 = true) (hr : onPt r1 r2 r3 = true) (hy : onPt y1 y2 y3 = false) :
    Calls Try.prog 6 #[.agg #[.int .i64 p1, .int .i64 p2, .int .i64 p3], .agg #[.int .i64 q1, .int .i64 q2, .int .i64 q3], .agg #[.int .i64 r1, .int .i64 r2, .int .i64 r3], .agg #[.int .i64 y1, .int .i64 y2, .int .i64 y3]] w fun e w' => e = .returned (.bool true) ∧ Below w.heap.size w w' := by
  have Onp : Hid (∀ W, Calls Try.prog 16 #[.agg #[.int .i64 p1, .int .i64 p2, .int .i64 p3]] W fun e w' => e = .returned (.bool true) ∧ Below W.heap.size W w') := fun W => by have := refOn_any p1 p2 p3 W; rw [hp] at this; exact this
  clear hp
  have Onq : Hid (∀ W, Calls Try.prog 16 #[.agg #[.int .i64 q1, .int .i64 q2, .int .i64 q3]] W fun e w' => e = .returned (.bool true) ∧ Below W.heap.size W w') := fun W => by have := refOn_any q1 q2 q3 W; rw [hq] at this; exact this
  clear hq
  have Onr : Hid (∀ W, Calls Try.prog 16 #[.agg #[.int .i64 r1, .int .i64 r2, .int .i64 r3]] W fun e w' => e = .returned (.bool true) ∧ Below W.heap.size W w') := fun W => by have := refOn_any r1 r2 r3 W; rw [hr] at this; exact this
  clear hr
  have Ony : Hid (∀ W, Calls Try.prog 16 #[.agg #[.int .i64 y1, .int .i64 y2, .int .i64 y3]] W fun e w' => e = .returned (.bool false) ∧ Below W.heap.size W w') := fun W => by have := refOn_any y1 y2 y3 W; rw [hy] at this; exact this
  clear hy
  go_enter Try.func6, Try.ntmps6
  go_wp2_with fail
  refine (awake_any _).mono ?_
  rintro e w1 ⟨rfl, hb1⟩
  obtain ⟨hc1, hz1⟩ := bcell hb1
  have s1 : w.heap.size + 1 + 1 + 1 < w1.heap.size := by have := hb1.size; simp at this; omega
  have s1a : w.heap.size + 1 + 1 < w1.heap.size := by omega
  have s1b : w.heap.size + 1 < w1.heap.size := by omega
  have s1c : w.heap.size < w1.heap.size := by omega
  go_wp2_with fail
  refine (Onp.out _).mono ?_
  rintro e w2 ⟨rfl, hb2⟩
  obtain ⟨hc2, hz2⟩ := bcell hb2
  have s2 : w.heap.size + 1 + 1 + 1 < w2.heap.size := by have := hb2.size; omega
  have s2a : w.heap.size + 1 + 1 < w2.heap.size := by omega
  have s2b : w.heap.size + 1 < w2.heap.size := by omega
  have s2c : w.heap.size < w2.heap.size := by omega
  go_wp2_with fail
  refine (Onq.out _).mono ?_
  rintro e w3 ⟨rfl, hb3⟩
  obtain ⟨hc3, hz3⟩ := bcell hb3
  have s3 : w.heap.size + 1 + 1 + 1 < w3.heap.size := by have := hb3.size; omega
  have s3a : w.heap.size + 1 + 1 < w3.heap.size := by omega
  have s3b : w.heap.size + 1 < w3.heap.size := by omega
  have s3c : w.heap.size < w3.heap.size := by omega
  go_wp2_with fail
  refine (Onr.out _).mono ?_
  rintro e w4 ⟨rfl, hb4⟩
  obtain ⟨hc4, hz4⟩ := bcell hb4
  have s4 : w.heap.size + 1 + 1 + 1 < w4.heap.size := by have := hb4.size; omega
  have s4a : w.heap.size + 1 + 1 < w4.heap.size := by omega
  have s4b : w.heap.size + 1 < w4.heap.size := by omega
  have s4c : w.heap.size < w4.heap.size := by omega
  go_wp2_with fail
  refine (Ony.out _).mono ?_
  rintro e w5 ⟨rfl, hb5⟩
  obtain ⟨hc5, hz5⟩ := bcell hb5
  have s5 : w.heap.size + 1 + 1 + 1 < w5.heap.size := by have := hb5.size; omega
  have s5a : w.heap.size + 1 + 1 < w5.heap.size := by omega
  have s5b : w.heap.size + 1 < w5.heap.size := by omega
  have s5c : w.heap.size < w5.heap.size := by omega
  go_wp2
  go_ret
  exact ⟨rfl, by (repeat (first | with_reducible exact Below.refl _ _ | with_reducible assumption | with_reducible refine below_drewN ?_ _ | with_reducible refine Below.drew ?_ | with_reducible refine Below.alloc ?_ (by first | exact Nat.le_refl _ | (simp; done) | (simp; omega) | omega) _ | with_reducible refine Below.setCell ?_ (by first | exact Nat.le_refl _ | (simp; done) | (simp; omega) | omega) _ | with_reducible refine Below.trans ?_ (Below.mono (by with_reducible assumption) (by first | exact Nat.le_refl _ | (simp; done) | (simp; omega) | omega))))⟩

theorem three_any (p1 p2 p3 q1 q2 q3 r1 r2 r3 y1 y2 y3 : Int) (w : World) :
    Calls Try.prog 6 #[.agg #[.int .i64 p1, .int .i64 p2, .int .i64 p3], .agg #[.int .i64 q1, .int .i64 q2, .int .i64 q3], .agg #[.int .i64 r1, .int .i64 r2, .int .i64 r3], .agg #[.int .i64 y1, .int .i64 y2, .int .i64 y3]] w fun e w' => e = .returned (.bool true) ∧ Below w.heap.size w w' := by
  by_cases hp : onPt p1 p2 p3 = true
  · by_cases hq : onPt q1 q2 q3 = true
    · by_cases hr : onPt r1 r2 r3 = true
      · by_cases hy : onPt y1 y2 y3 = true
        · have vp := OnB.of hp
          have vq := OnB.of hq
          have vr := OnB.of hr
          have vy := OnB.of hy
          have e1 := farTo_by p1 p2 p3 q1 q2 q3 y1 y2 y3
          have e2 := farTo_two vp vq
          have in_ : ∀ x : Int, -4194304 ≤ x → x ≤ 4194304 → in64 x := fun x a b => by unfold in64; omega
          obtain ⟨a1, a2, a3, a4, a5, a6⟩ := vp
          obtain ⟨b1, b2, b3, b4, b5, b6⟩ := vq
          obtain ⟨c1, c2, c3, c4, c5, c6⟩ := vr
          obtain ⟨d1, d2, d3, d4, d5, d6⟩ := vy
          have FAB := fun W => far_any (p1 + y1) (p2 + y2) (p3 + y3) (q1 + y1) (q2 + y2) (q3 + y3) W (in_ _ (by omega) (by omega)) (in_ _ (by omega) (by omega)) (in_ _ (by omega) (by omega)) (in_ _ (by omega) (by omega)) (in_ _ (by omega) (by omega)) (in_ _ (by omega) (by omega))
          have FCD := fun W => far_any (2 * p1) (2 * p2) (2 * p3) (2 * q1) (2 * q2) (2 * q3) W (in_ _ (by omega) (by omega)) (in_ _ (by omega) (by omega)) (in_ _ (by omega) (by omega)) (in_ _ (by omega) (by omega)) (in_ _ (by omega) (by omega)) (in_ _ (by omega) (by omega))
          rw [e1] at FAB
          rw [e2] at FCD
          exact three_on p1 p2 p3 q1 q2 q3 r1 r2 r3 y1 y2 y3 w hp hq hr hy (farTo p1 p2 p3 q1 q2 q3 3) (farTo p1 p2 p3 r1 r2 r3 3) (farTo r1 r2 r3 q1 q2 q3 3)
            (farTo_bd (OnB.of hp) (OnB.of hq)).1 (farTo_bd (OnB.of hp) (OnB.of hq)).2 (farTo_bd (OnB.of hp) (OnB.of hr)).1 (farTo_bd (OnB.of hp) (OnB.of hr)).2 (farTo_bd (OnB.of hr) (OnB.of hq)).1 (farTo_bd (OnB.of hr) (OnB.of hq)).2
            (farTo_three (OnB.of hp) (OnB.of hq) (OnB.of hr))
            (fun W => far_any _ _ _ _ _ _ W (in_ _ (by omega) (by omega)) (in_ _ (by omega) (by omega)) (in_ _ (by omega) (by omega)) (in_ _ (by omega) (by omega)) (in_ _ (by omega) (by omega)) (in_ _ (by omega) (by omega)))
            (fun W => far_any _ _ _ _ _ _ W (in_ _ (by omega) (by omega)) (in_ _ (by omega) (by omega)) (in_ _ (by omega) (by omega)) (in_ _ (by omega) (by omega)) (in_ _ (by omega) (by omega)) (in_ _ (by omega) (by omega)))
            (fun W => far_any _ _ _ _ _ _ W (in_ _ (by omega) (by omega)) (in_ _ (by omega) (by omega)) (in_ _ (by omega) (by omega)) (in_ _ (by omega) (by omega)) (in_ _ (by omega) (by omega)) (in_ _ (by omega) (by omega)))
            FAB FCD
        · exact three_off3 p1 p2 p3 q1 q2 q3 r1 r2 r3 y1 y2 y3 w hp hq hr (by simpa using hy)
      · exact three_off2 p1 p2 p3 q1 q2 q3 r1 r2 r3 y1 y2 y3 w hp hq (by simpa using hr)
    · exact three_off1 p1 p2 p3 q1 q2 q3 r1 r2 r3 y1 y2 y3 w hp (by simpa using hq)
  · exact three_off0 p1 p2 p3 q1 q2 q3 r1 r2 r3 y1 y2 y3 w (by simpa using hp)
end Go.Proofs.Ytppkbnajpeoaaaa
