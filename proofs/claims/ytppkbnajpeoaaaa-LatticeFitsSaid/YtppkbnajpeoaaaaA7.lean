/- The reference's Snap: a walk. -/
import Derived.Test.YtppkbnajpeoaaaaA6
namespace Go.Proofs.Ytppkbnajpeoaaaa
open Go.RowKit

structure SnapAt (s a b c x y z : Int) (w : World) (k : Nat) (wr : World) : Prop where
  bel : Below w.heap.size w wr
  lo : Rw wr w.heap.size (i3 a b c)
  re : Rw wr (w.heap.size + 1) (i3 x y z)
  out : Rw wr (w.heap.size + 1 + 1) (i3 0 0 0)
  p : Rw wr (w.heap.size + 1 + 1 + 1) (pre3 (coX s a x) (coX s b y) (coX s c z) k)
  ok0 : 0 < k → coOk s a x = inB 1048576 (coX s a x)
  ok1 : 1 < k → coOk s b y = inB 1048576 (coX s b y)
  ok2 : 2 < k → coOk s c z = inB 1048576 (coX s c z)
def SnapRel (s a b c x y z : Int) (w : World) (i : Value) (wr : World) : Prop :=
  (i = .int .i64 0 ∧ SnapAt s a b c x y z w 0 wr) ∨ (i = .int .i64 1 ∧ SnapAt s a b c x y z w 1 wr) ∨ (i = .int .i64 2 ∧ SnapAt s a b c x y z w 2 wr) ∨ (i = .int .i64 3 ∧ SnapAt s a b c x y z w 3 wr)
theorem pre3_0 (x y z : Int) : pre3 x y z 0 = i3 0 0 0 := by simp [pre3]
theorem pre3_1 (x y z : Int) : pre3 x y z 1 = i3 x 0 0 := by simp [pre3]
theorem pre3_2 (x y z : Int) : pre3 x y z 2 = i3 x y 0 := by simp [pre3]
theorem pre3_3 (x y z : Int) : pre3 x y z 3 = i3 x y z := by simp [pre3]

def refSnapV (s a b c x y z : Int) : Value := if snapOk s a b c x y z then .tuple #[pt (snapX s (x - a)) (snapX s (y - b)) (snapX s (z - c)), .bool true] else .tuple #[pt 0 0 0, .bool false]

set_option maxHeartbeats 4000000 in
theorem refSnap_any (s a b c x y z : Int) (w : World) (hr : rightB s a b c = true) :
    Calls Try.prog 15 #[.int .i64 s, pt a b c, pt x y z] w fun e w' => e = .returned (refSnapV s a b c x y z) ∧ Below w.heap.size w w' := by
  have hs : right0 s = true := by
    simp only [rightB, Bool.and_eq_true] at hr
    simp only [right0, Bool.and_eq_true]
    exact hr.1.1.1
  have hl0 : inB 1099511627776 a = true := by
    simp only [rightB, Bool.and_eq_true] at hr
    exact hr.1.1.2
  have hl1 : inB 1099511627776 b = true := by
    simp only [rightB, Bool.and_eq_true] at hr
    exact hr.1.2
  have hl2 : inB 1099511627776 c = true := by
    simp only [rightB, Bool.and_eq_true] at hr
    exact hr.2
  unfold pt
  go_enter Try.func15, Try.ntmps15
  go_wp2
  go_loopw [9] (fun i wr => SnapRel s a b c x y z w i wr) (fun i _ => 3 - (intOf i).toNat)
  case atStart =>
    refine .inl ⟨rfl, by (repeat (first | with_reducible exact Below.refl _ _ | with_reducible assumption | with_reducible refine below_drewN ?_ _ | with_reducible refine Below.alloc ?_ (by first | exact Nat.le_refl _ | (simp; done) | (simp; omega) | omega) _ | with_reducible refine Below.setCell ?_ (by first | exact Nat.le_refl _ | (simp; done) | (simp; omega) | omega) _ | with_reducible refine Below.trans ?_ (Below.mono (by with_reducible assumption) (by first | exact Nat.le_refl _ | (simp; done) | (simp; omega) | omega)))), ?_, ?_, ?_, ?_, fun h => absurd h (by omega), fun h => absurd h (by omega), fun h => absurd h (by omega)⟩
    · exact (((Rw.new w _ _).alloc _).alloc _).alloc _
    · have h := (((Rw.new (w.alloc (.cells #[.int .i64 a, .int .i64 b, .int .i64 c] 23)) 22 (i3 x y z)).alloc (.cells #[.int .i64 0, .int .i64 0, .int .i64 0] 23)).alloc (.cells #[.int .i64 0, .int .i64 0, .int .i64 0] 23))
      rw [World.size_alloc] at h
      exact h
    · have h := ((Rw.new ((w.alloc (.cells #[.int .i64 a, .int .i64 b, .int .i64 c] 23)).alloc (.cells #[.int .i64 x, .int .i64 y, .int .i64 z] 22)) 23 (i3 0 0 0)).alloc (.cells #[.int .i64 0, .int .i64 0, .int .i64 0] 23))
      rw [World.size_alloc, World.size_alloc] at h
      exact h
    · have h := (Rw.new (((w.alloc (.cells #[.int .i64 a, .int .i64 b, .int .i64 c] 23)).alloc (.cells #[.int .i64 x, .int .i64 y, .int .i64 z] 22)).alloc (.cells #[.int .i64 0, .int .i64 0, .int .i64 0] 23)) 23 (i3 0 0 0))
      rw [World.size_alloc, World.size_alloc, World.size_alloc] at h
      rw [pre3_0]
      exact h
  case round =>
    rcases hrel with ⟨rfl, hA⟩ | ⟨rfl, hA⟩ | ⟨rfl, hA⟩ | ⟨rfl, hA⟩

    · obtain ⟨hb, hlo, hre, hout, hp, k0, k1, k2⟩ := hA
      rw [pre3_0] at hp
      have cl : wr.cell? ⟨w.heap.size, 0, none⟩ = some (.int .i64 a) := hlo.cell 0
      have cr : wr.cell? ⟨w.heap.size + 1, 0, none⟩ = some (.int .i64 x) := hre.cell 0
      have cp : wr.cell? ⟨w.heap.size + 1 + 1 + 1, 0, none⟩ = some (.int .i64 0) := hp.cell 0
      have fp : wr.frozen? ⟨w.heap.size + 1 + 1 + 1, 0, none⟩ = false := hp.frozen 0
      have z0 : wr.cell? ⟨w.heap.size + 1 + 1, 0, none⟩ = some (.int .i64 0) := hout.cell 0
      have z1 : wr.cell? ⟨w.heap.size + 1 + 1, 1, none⟩ = some (.int .i64 0) := hout.cell 1
      have z2 : wr.cell? ⟨w.heap.size + 1 + 1, 2, none⟩ = some (.int .i64 0) := hout.cell 2
      have f0 : wr.frozen? ⟨w.heap.size + 1 + 1, 0, none⟩ = false := hout.frozen 0
      have f1 : wr.frozen? ⟨w.heap.size + 1 + 1, 1, none⟩ = false := hout.frozen 1
      have f2 : wr.frozen? ⟨w.heap.size + 1 + 1, 2, none⟩ = false := hout.frozen 2
      obtain ⟨⟨s1, s2, l1, l2⟩, hway⟩ := co_ways s a x hs hl0
      have HB := Lib.hid hb
      have HLO := Lib.hid hlo
      have HRE := Lib.hid hre
      have HOUT := Lib.hid hout
      have HP := Lib.hid hp
      have K0 := Lib.hid k0
      have K1 := Lib.hid k1
      have K2 := Lib.hid k2
      have HS := Lib.hid hs
      have HR := Lib.hid hr
      clear hb hlo hre hout hp k0 k1 k2 hs hr
      rcases hway with ⟨h1, hno⟩ | ⟨h1, hno⟩ | ⟨h1, hx, hok⟩
      iterate 2
        · have V : Hid (refSnapV s a b c x y z = .tuple #[pt 0 0 0, .bool false]) := by
            show refSnapV s a b c x y z = .tuple #[pt 0 0 0, .bool false]
            simp [refSnapV, snapOk, hno]
          clear hno
          go_wp2
          exact bodyPost_ret (v := .tuple #[pt 0 0 0, .bool false]) (by unfold results; simp only [Try.results15, pt]; go_simp) rfl ⟨by rw [V.out], by have hb := HB.out; (repeat (first | with_reducible exact Below.refl _ _ | with_reducible assumption | with_reducible refine below_drewN ?_ _ | with_reducible refine Below.alloc ?_ (by first | exact Nat.le_refl _ | (simp; done) | (simp; omega) | omega) _ | with_reducible refine Below.setCell ?_ (by first | exact Nat.le_refl _ | (simp; done) | (simp; omega) | omega) _ | with_reducible refine Below.trans ?_ (Below.mono (by with_reducible assumption) (by first | exact Nat.le_refl _ | (simp; done) | (simp; omega) | omega))))⟩
      obtain ⟨⟨q1, q2, m1, m2⟩, hw⟩ := snap_ref s (x - a) s1 s2 (by omega) (by omega)
      have HX := Lib.hid hx
      have HOK := Lib.hid hok
      clear hx hok
      rcases hw with ⟨d0, ⟨g1, g2⟩ | ⟨g1, g2⟩, b1, b2⟩ | ⟨⟨d0, e0⟩, ⟨g1, g2⟩, b1, b2⟩ | ⟨⟨d0, e0⟩, ⟨g1, g2⟩ | ⟨g1, g2⟩, b1, b2, b3, b4⟩
      all_goals
        have G := Lib.hid g2
        clear g2
        go_wp2
        go_quiet (fail)
        go_wp2
        go_roundw
        case rel =>
          have ev := G.out
          rw [← HX.out] at ev
          refine .inr (.inl ⟨rfl, ?_⟩)
          refine ⟨by have hb := HB.out; (repeat (first | with_reducible exact Below.refl _ _ | with_reducible assumption | with_reducible refine below_drewN ?_ _ | with_reducible refine Below.alloc ?_ (by first | exact Nat.le_refl _ | (simp; done) | (simp; omega) | omega) _ | with_reducible refine Below.setCell ?_ (by first | exact Nat.le_refl _ | (simp; done) | (simp; omega) | omega) _ | with_reducible refine Below.trans ?_ (Below.mono (by with_reducible assumption) (by first | exact Nat.le_refl _ | (simp; done) | (simp; omega) | omega)))), (HLO.out.drewN _).far (by first | (simp; done) | (simp; omega)) _, (HRE.out.drewN _).far (by first | (simp; done) | (simp; omega)) _, (HOUT.out.drewN _).far (by first | (simp; done) | (simp; omega)) _, ?_, fun _ => HOK.out, fun h => absurd h (by omega), fun h => absurd h (by omega)⟩
          rw [pre3_1, ev]
          exact (HP.out.drewN _).set 0 _
        case measure => simp [intOf]

    · obtain ⟨hb, hlo, hre, hout, hp, k0, k1, k2⟩ := hA
      rw [pre3_1] at hp
      have cl : wr.cell? ⟨w.heap.size, 1, none⟩ = some (.int .i64 b) := hlo.cell 1
      have cr : wr.cell? ⟨w.heap.size + 1, 1, none⟩ = some (.int .i64 y) := hre.cell 1
      have cp : wr.cell? ⟨w.heap.size + 1 + 1 + 1, 1, none⟩ = some (.int .i64 0) := hp.cell 1
      have fp : wr.frozen? ⟨w.heap.size + 1 + 1 + 1, 1, none⟩ = false := hp.frozen 1
      have z0 : wr.cell? ⟨w.heap.size + 1 + 1, 0, none⟩ = some (.int .i64 0) := hout.cell 0
      have z1 : wr.cell? ⟨w.heap.size + 1 + 1, 1, none⟩ = some (.int .i64 0) := hout.cell 1
      have z2 : wr.cell? ⟨w.heap.size + 1 + 1, 2, none⟩ = some (.int .i64 0) := hout.cell 2
      have f0 : wr.frozen? ⟨w.heap.size + 1 + 1, 0, none⟩ = false := hout.frozen 0
      have f1 : wr.frozen? ⟨w.heap.size + 1 + 1, 1, none⟩ = false := hout.frozen 1
      have f2 : wr.frozen? ⟨w.heap.size + 1 + 1, 2, none⟩ = false := hout.frozen 2
      obtain ⟨⟨s1, s2, l1, l2⟩, hway⟩ := co_ways s b y hs hl1
      have HB := Lib.hid hb
      have HLO := Lib.hid hlo
      have HRE := Lib.hid hre
      have HOUT := Lib.hid hout
      have HP := Lib.hid hp
      have K0 := Lib.hid k0
      have K1 := Lib.hid k1
      have K2 := Lib.hid k2
      have HS := Lib.hid hs
      have HR := Lib.hid hr
      clear hb hlo hre hout hp k0 k1 k2 hs hr
      rcases hway with ⟨h1, hno⟩ | ⟨h1, hno⟩ | ⟨h1, hx, hok⟩
      iterate 2
        · have V : Hid (refSnapV s a b c x y z = .tuple #[pt 0 0 0, .bool false]) := by
            show refSnapV s a b c x y z = .tuple #[pt 0 0 0, .bool false]
            simp [refSnapV, snapOk, hno]
          clear hno
          go_wp2
          exact bodyPost_ret (v := .tuple #[pt 0 0 0, .bool false]) (by unfold results; simp only [Try.results15, pt]; go_simp) rfl ⟨by rw [V.out], by have hb := HB.out; (repeat (first | with_reducible exact Below.refl _ _ | with_reducible assumption | with_reducible refine below_drewN ?_ _ | with_reducible refine Below.alloc ?_ (by first | exact Nat.le_refl _ | (simp; done) | (simp; omega) | omega) _ | with_reducible refine Below.setCell ?_ (by first | exact Nat.le_refl _ | (simp; done) | (simp; omega) | omega) _ | with_reducible refine Below.trans ?_ (Below.mono (by with_reducible assumption) (by first | exact Nat.le_refl _ | (simp; done) | (simp; omega) | omega))))⟩
      obtain ⟨⟨q1, q2, m1, m2⟩, hw⟩ := snap_ref s (y - b) s1 s2 (by omega) (by omega)
      have HX := Lib.hid hx
      have HOK := Lib.hid hok
      clear hx hok
      rcases hw with ⟨d0, ⟨g1, g2⟩ | ⟨g1, g2⟩, b1, b2⟩ | ⟨⟨d0, e0⟩, ⟨g1, g2⟩, b1, b2⟩ | ⟨⟨d0, e0⟩, ⟨g1, g2⟩ | ⟨g1, g2⟩, b1, b2, b3, b4⟩
      all_goals
        have G := Lib.hid g2
        clear g2
        go_wp2
        go_quiet (fail)
        go_wp2
        go_roundw
        case rel =>
          have ev := G.out
          rw [← HX.out] at ev
          refine .inr (.inr (.inl ⟨rfl, ?_⟩))
          refine ⟨by have hb := HB.out; (repeat (first | with_reducible exact Below.refl _ _ | with_reducible assumption | with_reducible refine below_drewN ?_ _ | with_reducible refine Below.alloc ?_ (by first | exact Nat.le_refl _ | (simp; done) | (simp; omega) | omega) _ | with_reducible refine Below.setCell ?_ (by first | exact Nat.le_refl _ | (simp; done) | (simp; omega) | omega) _ | with_reducible refine Below.trans ?_ (Below.mono (by with_reducible assumption) (by first | exact Nat.le_refl _ | (simp; done) | (simp; omega) | omega)))), (HLO.out.drewN _).far (by first | (simp; done) | (simp; omega)) _, (HRE.out.drewN _).far (by first | (simp; done) | (simp; omega)) _, (HOUT.out.drewN _).far (by first | (simp; done) | (simp; omega)) _, ?_, fun _ => K0.out (by omega), fun _ => HOK.out, fun h => absurd h (by omega)⟩
          rw [pre3_2, ev]
          exact (HP.out.drewN _).set 1 _
        case measure => simp [intOf]

    · obtain ⟨hb, hlo, hre, hout, hp, k0, k1, k2⟩ := hA
      rw [pre3_2] at hp
      have cl : wr.cell? ⟨w.heap.size, 2, none⟩ = some (.int .i64 c) := hlo.cell 2
      have cr : wr.cell? ⟨w.heap.size + 1, 2, none⟩ = some (.int .i64 z) := hre.cell 2
      have cp : wr.cell? ⟨w.heap.size + 1 + 1 + 1, 2, none⟩ = some (.int .i64 0) := hp.cell 2
      have fp : wr.frozen? ⟨w.heap.size + 1 + 1 + 1, 2, none⟩ = false := hp.frozen 2
      have z0 : wr.cell? ⟨w.heap.size + 1 + 1, 0, none⟩ = some (.int .i64 0) := hout.cell 0
      have z1 : wr.cell? ⟨w.heap.size + 1 + 1, 1, none⟩ = some (.int .i64 0) := hout.cell 1
      have z2 : wr.cell? ⟨w.heap.size + 1 + 1, 2, none⟩ = some (.int .i64 0) := hout.cell 2
      have f0 : wr.frozen? ⟨w.heap.size + 1 + 1, 0, none⟩ = false := hout.frozen 0
      have f1 : wr.frozen? ⟨w.heap.size + 1 + 1, 1, none⟩ = false := hout.frozen 1
      have f2 : wr.frozen? ⟨w.heap.size + 1 + 1, 2, none⟩ = false := hout.frozen 2
      obtain ⟨⟨s1, s2, l1, l2⟩, hway⟩ := co_ways s c z hs hl2
      have HB := Lib.hid hb
      have HLO := Lib.hid hlo
      have HRE := Lib.hid hre
      have HOUT := Lib.hid hout
      have HP := Lib.hid hp
      have K0 := Lib.hid k0
      have K1 := Lib.hid k1
      have K2 := Lib.hid k2
      have HS := Lib.hid hs
      have HR := Lib.hid hr
      clear hb hlo hre hout hp k0 k1 k2 hs hr
      rcases hway with ⟨h1, hno⟩ | ⟨h1, hno⟩ | ⟨h1, hx, hok⟩
      iterate 2
        · have V : Hid (refSnapV s a b c x y z = .tuple #[pt 0 0 0, .bool false]) := by
            show refSnapV s a b c x y z = .tuple #[pt 0 0 0, .bool false]
            simp [refSnapV, snapOk, hno]
          clear hno
          go_wp2
          exact bodyPost_ret (v := .tuple #[pt 0 0 0, .bool false]) (by unfold results; simp only [Try.results15, pt]; go_simp) rfl ⟨by rw [V.out], by have hb := HB.out; (repeat (first | with_reducible exact Below.refl _ _ | with_reducible assumption | with_reducible refine below_drewN ?_ _ | with_reducible refine Below.alloc ?_ (by first | exact Nat.le_refl _ | (simp; done) | (simp; omega) | omega) _ | with_reducible refine Below.setCell ?_ (by first | exact Nat.le_refl _ | (simp; done) | (simp; omega) | omega) _ | with_reducible refine Below.trans ?_ (Below.mono (by with_reducible assumption) (by first | exact Nat.le_refl _ | (simp; done) | (simp; omega) | omega))))⟩
      obtain ⟨⟨q1, q2, m1, m2⟩, hw⟩ := snap_ref s (z - c) s1 s2 (by omega) (by omega)
      have HX := Lib.hid hx
      have HOK := Lib.hid hok
      clear hx hok
      rcases hw with ⟨d0, ⟨g1, g2⟩ | ⟨g1, g2⟩, b1, b2⟩ | ⟨⟨d0, e0⟩, ⟨g1, g2⟩, b1, b2⟩ | ⟨⟨d0, e0⟩, ⟨g1, g2⟩ | ⟨g1, g2⟩, b1, b2, b3, b4⟩
      all_goals
        have G := Lib.hid g2
        clear g2
        go_wp2
        go_quiet (fail)
        go_wp2
        go_roundw
        case rel =>
          have ev := G.out
          rw [← HX.out] at ev
          refine .inr (.inr (.inr ⟨rfl, ?_⟩))
          refine ⟨by have hb := HB.out; (repeat (first | with_reducible exact Below.refl _ _ | with_reducible assumption | with_reducible refine below_drewN ?_ _ | with_reducible refine Below.alloc ?_ (by first | exact Nat.le_refl _ | (simp; done) | (simp; omega) | omega) _ | with_reducible refine Below.setCell ?_ (by first | exact Nat.le_refl _ | (simp; done) | (simp; omega) | omega) _ | with_reducible refine Below.trans ?_ (Below.mono (by with_reducible assumption) (by first | exact Nat.le_refl _ | (simp; done) | (simp; omega) | omega)))), (HLO.out.drewN _).far (by first | (simp; done) | (simp; omega)) _, (HRE.out.drewN _).far (by first | (simp; done) | (simp; omega)) _, (HOUT.out.drewN _).far (by first | (simp; done) | (simp; omega)) _, ?_, fun _ => K0.out (by omega), fun _ => K1.out (by omega), fun _ => HOK.out⟩
          rw [pre3_3, ev]
          exact (HP.out.drewN _).set 2 _
        case measure => simp [intOf]

    · obtain ⟨hb, hlo, hre, hout, hp, k0, k1, k2⟩ := hA
      rw [pre3_3] at hp
      have c0 : wr.cell? ⟨w.heap.size + 1 + 1 + 1, 0, none⟩ = some (.int .i64 (coX s a x)) := hp.cell 0
      have c1 : wr.cell? ⟨w.heap.size + 1 + 1 + 1, 1, none⟩ = some (.int .i64 (coX s b y)) := hp.cell 1
      have c2 : wr.cell? ⟨w.heap.size + 1 + 1 + 1, 2, none⟩ = some (.int .i64 (coX s c z)) := hp.cell 2
      have z0 : wr.cell? ⟨w.heap.size + 1 + 1, 0, none⟩ = some (.int .i64 0) := hout.cell 0
      have z1 : wr.cell? ⟨w.heap.size + 1 + 1, 1, none⟩ = some (.int .i64 0) := hout.cell 1
      have z2 : wr.cell? ⟨w.heap.size + 1 + 1, 2, none⟩ = some (.int .i64 0) := hout.cell 2
      have f0 : wr.frozen? ⟨w.heap.size + 1 + 1, 0, none⟩ = false := hout.frozen 0
      have f1 : wr.frozen? ⟨w.heap.size + 1 + 1, 1, none⟩ = false := hout.frozen 1
      have f2 : wr.frozen? ⟨w.heap.size + 1 + 1, 2, none⟩ = false := hout.frozen 2
      have sz := hp.lt
      have sz2 : w.heap.size + 1 + 1 < wr.heap.size := by omega
      have V : snapOk s a b c x y z = onPt (coX s a x) (coX s b y) (coX s c z) := by
        simp only [snapOk, onPt, k0 (by omega), k1 (by omega), k2 (by omega)]
      have HP := Lib.hid hp
      have HB := Lib.hid hb
      clear hlo hre hout hp k0 k1 k2 hb
      have HV := Lib.hid V
      clear V
      by_cases ho : onPt (coX s a x) (coX s b y) (coX s c z) = true
      · have R := fun W => refOn_any (coX s a x) (coX s b y) (coX s c z) W
        have E : refSnapV s a b c x y z = .tuple #[pt (coX s a x) (coX s b y) (coX s c z), .bool true] := by
          have hv := HV.out
          rw [ho] at hv
          unfold refSnapV
          rw [if_pos hv]
          simp only [snapOk, Bool.and_eq_true, coOk] at hv
          simp [coX, hv]
        rw [ho] at R
        have R := Lib.hid R
        have HE := Lib.hid E
        clear E ho
        unfold pt at R
        go_wp2_with (go_at_call 16; refine (R.out _).mono ?_)
        rintro e w2 ⟨rfl, hb2⟩
        obtain ⟨hc2, hz2⟩ := bcell hb2
        have sz3 : w.heap.size + 1 + 1 < w2.heap.size := by have := hb2.size; omega
        go_wp2
        refine bodyPost_ret (v := .tuple #[pt (coX s a x) (coX s b y) (coX s c z), .bool true]) (by unfold results; simp only [Try.results15, pt]; go_simp) rfl ⟨by rw [HE.out], ?_⟩
        have hb := HB.out
        (repeat (first | with_reducible exact Below.refl _ _ | with_reducible assumption | with_reducible refine below_drewN ?_ _ | with_reducible refine Below.alloc ?_ (by first | exact Nat.le_refl _ | (simp; done) | (simp; omega) | omega) _ | with_reducible refine Below.setCell ?_ (by first | exact Nat.le_refl _ | (simp; done) | (simp; omega) | omega) _ | with_reducible refine Below.trans ?_ (Below.mono (by with_reducible assumption) (by first | exact Nat.le_refl _ | (simp; done) | (simp; omega) | omega))))
      · have ho : onPt (coX s a x) (coX s b y) (coX s c z) = false := by simpa using ho
        have R := fun W => refOn_any (coX s a x) (coX s b y) (coX s c z) W
        have E : refSnapV s a b c x y z = .tuple #[pt 0 0 0, .bool false] := by
          have hv := HV.out
          rw [ho] at hv
          unfold refSnapV
          rw [if_neg (by simp [hv])]
        rw [ho] at R
        have R := Lib.hid R
        have HE := Lib.hid E
        clear E ho
        unfold pt at R
        go_wp2_with (go_at_call 16; refine (R.out _).mono ?_)
        rintro e w2 ⟨rfl, hb2⟩
        obtain ⟨hc2, hz2⟩ := bcell hb2
        have sz3 : w.heap.size + 1 + 1 < w2.heap.size := by have := hb2.size; omega
        go_wp2
        refine bodyPost_ret (v := .tuple #[pt 0 0 0, .bool false]) (by unfold results; simp only [Try.results15, pt]; go_simp) rfl ⟨by rw [HE.out], ?_⟩
        have hb := HB.out
        (repeat (first | with_reducible exact Below.refl _ _ | with_reducible assumption | with_reducible refine below_drewN ?_ _ | with_reducible refine Below.alloc ?_ (by first | exact Nat.le_refl _ | (simp; done) | (simp; omega) | omega) _ | with_reducible refine Below.setCell ?_ (by first | exact Nat.le_refl _ | (simp; done) | (simp; omega) | omega) _ | with_reducible refine Below.trans ?_ (Below.mono (by with_reducible assumption) (by first | exact Nat.le_refl _ | (simp; done) | (simp; omega) | omega))))
end Go.Proofs.Ytppkbnajpeoaaaa
