/- The reference's Fit: its walk. -/
import Derived.Test.YtppkbnajpeoaaaaE1
import Derived.Deep.RegionHeld3
namespace Go.Proofs.Ytppkbnajpeoaaaa
open Go.RowKit

theorem below_alloc {w a : World} (h : Below w.heap.size w a) (o : Obj) : Below w.heap.size w (a.alloc o) := h.alloc h.size o
theorem below_set {w a : World} {p : Addr} (h : Below w.heap.size w a) (hp : w.heap.size ≤ p.block) (u : Value) : Below w.heap.size w (a.setCell p u) := h.setCell hp u
structure RFitAt (f : Nat → Nat → Int) (w : World) (n : Nat) (wr : World) : Prop where
  bel : Below w.heap.size w wr
  res : Rw wr w.heap.size (i3 0 0 0)
  out : Rw wr (w.heap.size + 1) (i3 (mnTo f 0 n) (mnTo f 1 n) (mnTo f 2 n))
structure RFitIn (f : Nat → Nat → Int) (w : World) (n k : Nat) (wr : World) : Prop where
  bel : Below w.heap.size w wr
  res : Rw wr w.heap.size (i3 0 0 0)
  out : Rw wr (w.heap.size + 1) (half (fun j => mnTo f j n) (fun j => mnTo f j (n + 1)) k)
def RFitRel (f : Nat → Nat → Int) (w : World) (len : Nat) (i : Value) (wr : World) : Prop := ∃ n : Nat, n ≤ len ∧ i = .int .i64 n ∧ RFitAt f w n wr
def RFitInRel (f : Nat → Nat → Int) (w : World) (n : Nat) (i : Value) (wr : World) : Prop :=
  (i = .int .i64 0 ∧ RFitIn f w n 0 wr) ∨ (i = .int .i64 1 ∧ RFitIn f w n 1 wr) ∨ (i = .int .i64 2 ∧ RFitIn f w n 2 wr) ∨ (i = .int .i64 3 ∧ RFitIn f w n 3 wr)
def RFitChk (f : Nat → Nat → Int) (s a b c : Int) (w : World) (len : Nat) (i : Value) (wr : World) : Prop :=
  ∃ n : Nat, n ≤ len ∧ i = .int .i64 n ∧ Below w.heap.size w wr ∧ Rw wr w.heap.size (i3 0 0 0) ∧ Rw wr (w.heap.size + 1) (i3 a b c) ∧ allOk f s a b c n = true
/-- what the reference's Fit answers -/
def rfitV (f : Nat → Nat → Int) (s : Int) (len : Nat) : Value :=
  if rightB s (mnTo f 0 len) (mnTo f 1 len) (mnTo f 2 len) && allOk f s (mnTo f 0 len) (mnTo f 1 len) (mnTo f 2 len) len then
    .tuple #[.agg #[.int .i64 (mnTo f 0 len), .int .i64 (mnTo f 1 len), .int .i64 (mnTo f 2 len)], .int .i64 0]
  else .tuple #[.agg #[.int .i64 0, .int .i64 0, .int .i64 0], .int .i64 2]

set_option maxHeartbeats 1000000 in
theorem rfit_bad (s : Int) (A : Option Addr) (len cap : Nat) (w : World) (h : (s < 1) ∨ (1 ≤ s ∧ 1048576 < s) ∨ ((1 ≤ s ∧ s ≤ 1048576) ∧ len = 0)) :
    Calls Try.prog 22 #[.int .i64 s, .slice A len cap] w fun e w' => e = .returned (.tuple #[.agg #[.int .i64 0, .int .i64 0, .int .i64 0], .int .i64 1]) ∧ Below w.heap.size w w' := by
  rcases h with h | h | ⟨h, rfl⟩
  all_goals
    go_enter Try.func22, Try.ntmps22
    go_wp2
    exact bodyPost_ret (v := .tuple #[.agg #[.int .i64 0, .int .i64 0, .int .i64 0], .int .i64 1]) (by unfold results; simp only [Try.results22]; go_simp) rfl ⟨rfl, by (repeat (first | with_reducible exact Below.refl _ _ | with_reducible assumption | with_reducible refine below_drewN ?_ _ | with_reducible refine Below.drew ?_ | with_reducible refine Below.alloc ?_ (by first | exact Nat.le_refl _ | (simp; done) | (simp; omega) | omega) _ | with_reducible refine Below.setCell ?_ (by first | exact Nat.le_refl _ | (simp; done) | (simp; omega) | omega) _ | with_reducible refine Below.trans ?_ (Below.mono (by with_reducible assumption) (by first | exact Nat.le_refl _ | (simp; done) | (simp; omega) | omega))))⟩

set_option maxHeartbeats 4000000 in
theorem rfit_some (s : Int) (b off len cap : Nat) (f : Nat → Nat → Int) (w : World) (hs : 1 ≤ s) (hs2 : s ≤ 1048576) (hl : len ≤ 40) (hcap : len ≤ cap) (hpos : 0 < len)
   (hc : ∀ i k, i < len → k < 3 → w.cell? ⟨b, off + i * 3 + k, none⟩ = some (.int .i64 (f i k))) :
    Calls Try.prog 22 #[.int .i64 s, .slice (some ⟨b, off, none⟩) len cap] w fun e w' => e = .returned (rfitV f s len) ∧ Below w.heap.size w w' := by
  have HC := Lib.hid hc
  have z0 : w.cell? ⟨b, off, none⟩ = some (.int .i64 (f 0 0)) := by simpa using hc 0 0 hpos (by omega)
  have z1 : w.cell? ⟨b, off + 1, none⟩ = some (.int .i64 (f 0 1)) := by simpa using hc 0 1 hpos (by omega)
  have z2 : w.cell? ⟨b, off + 2, none⟩ = some (.int .i64 (f 0 2)) := by simpa using hc 0 2 hpos (by omega)
  have zb := World.block_lt_of_cell? _ _ z0
  clear hc
  have hp0 : ((len : Int) == 0) = false := by simp; omega
  have hp1 : (0 : Int) < (len : Int) := by omega
  go_enter Try.func22, Try.ntmps22
  go_wp2
  clear z0 z1 z2
  go_loopw [7] (fun i wr => RFitRel f w len i wr) (fun i _ => len - (intOf i).toNat)
  case atStart =>
    refine ⟨0, by omega, rfl, by (repeat (first | with_reducible exact Below.refl _ _ | with_reducible assumption | with_reducible refine below_drewN ?_ _ | with_reducible refine Below.drew ?_ | with_reducible refine Below.alloc ?_ (by first | exact Nat.le_refl _ | (simp; done) | (simp; omega) | omega) _ | with_reducible refine Below.setCell ?_ (by first | exact Nat.le_refl _ | (simp; done) | (simp; omega) | omega) _ | with_reducible refine Below.trans ?_ (Below.mono (by with_reducible assumption) (by first | exact Nat.le_refl _ | (simp; done) | (simp; omega) | omega)))), ?_, ?_⟩
    · exact (Rw.new' (i3 0 0 0) rfl).alloc _
    · exact Rw.new' (i3 (f 0 0) (f 0 1) (f 0 2)) (by first | (simp; done) | (simp; omega) | omega)
  case round =>
    obtain ⟨n, hn, rfl, hA⟩ := hrel
    by_cases hlt : n < len
    · obtain ⟨wo, rfl⟩ : ∃ wo : World, wo = wr := ⟨_, rfl⟩
      have HA := Lib.hid hA
      clear hA
      go_wp2
      go_loopw [8] (fun i wr => RFitInRel f w n i wr) (fun i _ => 3 - (intOf i).toNat)
      case atStart => exact .inl ⟨rfl, HA.out.bel, HA.out.res, HA.out.out⟩
      case round =>
      clear HA
      rcases hrel with ⟨rfl, hA⟩ | ⟨rfl, hA⟩ | ⟨rfl, hA⟩ | ⟨rfl, hA⟩
      · obtain ⟨hb, rr, ro⟩ := hA
        have e0 := HC.out n 0 hlt (by omega)
        have kx : wr.cell? ⟨b, off + n * 3, none⟩ = some (.int .i64 (f n 0)) := (hb.cell (World.block_lt_of_cell? _ _ e0)).trans e0
        have co : wr.cell? ⟨w.heap.size + 1, 0, none⟩ = some (.int .i64 (mnTo f 0 n)) := ro.cell 0
        have fo : wr.frozen? ⟨w.heap.size + 1, 0, none⟩ = false := ro.frozen 0
        have hway := mn_ways f n 0
        have HB := Lib.hid hb
        have HR := Lib.hid rr
        have HO := Lib.hid ro
        clear hb rr ro e0
        obtain ⟨l, hl2⟩ : ∃ l, l = mnTo f 0 n := ⟨_, rfl⟩
        rw [← hl2] at co hway
        have EL := Lib.hid hl2
        clear hl2
        rcases hway with ⟨g1, v1⟩ | ⟨g1, v1⟩
        · have V1 := Lib.hid v1
          clear v1
          go_wp2
          go_quiet (fail)
          go_wp2
          refine ⟨.inr (.inl ⟨rfl, ?_⟩), by simp [intOf]⟩
          have hb := HB.out
          refine ⟨by (repeat (first | with_reducible exact Below.refl _ _ | with_reducible assumption | with_reducible refine below_drewN ?_ _ | with_reducible refine Below.drew ?_ | with_reducible refine Below.alloc ?_ (by first | exact Nat.le_refl _ | (simp; done) | (simp; omega) | omega) _ | with_reducible refine Below.setCell ?_ (by first | exact Nat.le_refl _ | (simp; done) | (simp; omega) | omega) _ | with_reducible refine Below.trans ?_ (Below.mono (by with_reducible assumption) (by first | exact Nat.le_refl _ | (simp; done) | (simp; omega) | omega)))), (HR.out.drewN _).far (by first | (simp; done) | (simp; omega) | omega) _, ?_⟩
          rw [← half_set (fun j => mnTo f j n) (fun j => mnTo f j (n + 1)) 0 _ (by omega) V1.out]
          exact (HO.out.drewN _).set 0 _
        · have V1 := Lib.hid v1
          clear v1
          go_wp2
          go_quiet (fail)
          go_wp2
          refine ⟨.inr (.inl ⟨rfl, ?_⟩), by simp [intOf]⟩
          have hb := HB.out
          refine ⟨by (repeat (first | with_reducible exact Below.refl _ _ | with_reducible assumption | with_reducible refine below_drewN ?_ _ | with_reducible refine Below.drew ?_ | with_reducible refine Below.alloc ?_ (by first | exact Nat.le_refl _ | (simp; done) | (simp; omega) | omega) _ | with_reducible refine Below.setCell ?_ (by first | exact Nat.le_refl _ | (simp; done) | (simp; omega) | omega) _ | with_reducible refine Below.trans ?_ (Below.mono (by with_reducible assumption) (by first | exact Nat.le_refl _ | (simp; done) | (simp; omega) | omega)))), HR.out.drewN _, ?_⟩
          rw [half_keep (fun j => mnTo f j n) (fun j => mnTo f j (n + 1)) 0 (by omega) (V1.out.trans EL.out)]
          exact HO.out.drewN _
      · obtain ⟨hb, rr, ro⟩ := hA
        have e0 := HC.out n 1 hlt (by omega)
        have kx : wr.cell? ⟨b, off + n * 3 + 1, none⟩ = some (.int .i64 (f n 1)) := (hb.cell (World.block_lt_of_cell? _ _ e0)).trans e0
        have co : wr.cell? ⟨w.heap.size + 1, 1, none⟩ = some (.int .i64 (mnTo f 1 n)) := ro.cell 1
        have fo : wr.frozen? ⟨w.heap.size + 1, 1, none⟩ = false := ro.frozen 1
        have hway := mn_ways f n 1
        have HB := Lib.hid hb
        have HR := Lib.hid rr
        have HO := Lib.hid ro
        clear hb rr ro e0
        obtain ⟨l, hl2⟩ : ∃ l, l = mnTo f 1 n := ⟨_, rfl⟩
        rw [← hl2] at co hway
        have EL := Lib.hid hl2
        clear hl2
        rcases hway with ⟨g1, v1⟩ | ⟨g1, v1⟩
        · have V1 := Lib.hid v1
          clear v1
          go_wp2
          go_quiet (fail)
          go_wp2
          refine ⟨.inr (.inr (.inl ⟨rfl, ?_⟩)), by simp [intOf]⟩
          have hb := HB.out
          refine ⟨by (repeat (first | with_reducible exact Below.refl _ _ | with_reducible assumption | with_reducible refine below_drewN ?_ _ | with_reducible refine Below.drew ?_ | with_reducible refine Below.alloc ?_ (by first | exact Nat.le_refl _ | (simp; done) | (simp; omega) | omega) _ | with_reducible refine Below.setCell ?_ (by first | exact Nat.le_refl _ | (simp; done) | (simp; omega) | omega) _ | with_reducible refine Below.trans ?_ (Below.mono (by with_reducible assumption) (by first | exact Nat.le_refl _ | (simp; done) | (simp; omega) | omega)))), (HR.out.drewN _).far (by first | (simp; done) | (simp; omega) | omega) _, ?_⟩
          rw [← half_set (fun j => mnTo f j n) (fun j => mnTo f j (n + 1)) 1 _ (by omega) V1.out]
          exact (HO.out.drewN _).set 1 _
        · have V1 := Lib.hid v1
          clear v1
          go_wp2
          go_quiet (fail)
          go_wp2
          refine ⟨.inr (.inr (.inl ⟨rfl, ?_⟩)), by simp [intOf]⟩
          have hb := HB.out
          refine ⟨by (repeat (first | with_reducible exact Below.refl _ _ | with_reducible assumption | with_reducible refine below_drewN ?_ _ | with_reducible refine Below.drew ?_ | with_reducible refine Below.alloc ?_ (by first | exact Nat.le_refl _ | (simp; done) | (simp; omega) | omega) _ | with_reducible refine Below.setCell ?_ (by first | exact Nat.le_refl _ | (simp; done) | (simp; omega) | omega) _ | with_reducible refine Below.trans ?_ (Below.mono (by with_reducible assumption) (by first | exact Nat.le_refl _ | (simp; done) | (simp; omega) | omega)))), HR.out.drewN _, ?_⟩
          rw [half_keep (fun j => mnTo f j n) (fun j => mnTo f j (n + 1)) 1 (by omega) (V1.out.trans EL.out)]
          exact HO.out.drewN _
      · obtain ⟨hb, rr, ro⟩ := hA
        have e0 := HC.out n 2 hlt (by omega)
        have kx : wr.cell? ⟨b, off + n * 3 + 2, none⟩ = some (.int .i64 (f n 2)) := (hb.cell (World.block_lt_of_cell? _ _ e0)).trans e0
        have co : wr.cell? ⟨w.heap.size + 1, 2, none⟩ = some (.int .i64 (mnTo f 2 n)) := ro.cell 2
        have fo : wr.frozen? ⟨w.heap.size + 1, 2, none⟩ = false := ro.frozen 2
        have hway := mn_ways f n 2
        have HB := Lib.hid hb
        have HR := Lib.hid rr
        have HO := Lib.hid ro
        clear hb rr ro e0
        obtain ⟨l, hl2⟩ : ∃ l, l = mnTo f 2 n := ⟨_, rfl⟩
        rw [← hl2] at co hway
        have EL := Lib.hid hl2
        clear hl2
        rcases hway with ⟨g1, v1⟩ | ⟨g1, v1⟩
        · have V1 := Lib.hid v1
          clear v1
          go_wp2
          go_quiet (fail)
          go_wp2
          refine ⟨.inr (.inr (.inr ⟨rfl, ?_⟩)), by simp [intOf]⟩
          have hb := HB.out
          refine ⟨by (repeat (first | with_reducible exact Below.refl _ _ | with_reducible assumption | with_reducible refine below_drewN ?_ _ | with_reducible refine Below.drew ?_ | with_reducible refine Below.alloc ?_ (by first | exact Nat.le_refl _ | (simp; done) | (simp; omega) | omega) _ | with_reducible refine Below.setCell ?_ (by first | exact Nat.le_refl _ | (simp; done) | (simp; omega) | omega) _ | with_reducible refine Below.trans ?_ (Below.mono (by with_reducible assumption) (by first | exact Nat.le_refl _ | (simp; done) | (simp; omega) | omega)))), (HR.out.drewN _).far (by first | (simp; done) | (simp; omega) | omega) _, ?_⟩
          rw [← half_set (fun j => mnTo f j n) (fun j => mnTo f j (n + 1)) 2 _ (by omega) V1.out]
          exact (HO.out.drewN _).set 2 _
        · have V1 := Lib.hid v1
          clear v1
          go_wp2
          go_quiet (fail)
          go_wp2
          refine ⟨.inr (.inr (.inr ⟨rfl, ?_⟩)), by simp [intOf]⟩
          have hb := HB.out
          refine ⟨by (repeat (first | with_reducible exact Below.refl _ _ | with_reducible assumption | with_reducible refine below_drewN ?_ _ | with_reducible refine Below.drew ?_ | with_reducible refine Below.alloc ?_ (by first | exact Nat.le_refl _ | (simp; done) | (simp; omega) | omega) _ | with_reducible refine Below.setCell ?_ (by first | exact Nat.le_refl _ | (simp; done) | (simp; omega) | omega) _ | with_reducible refine Below.trans ?_ (Below.mono (by with_reducible assumption) (by first | exact Nat.le_refl _ | (simp; done) | (simp; omega) | omega)))), HR.out.drewN _, ?_⟩
          rw [half_keep (fun j => mnTo f j n) (fun j => mnTo f j (n + 1)) 2 (by omega) (V1.out.trans EL.out)]
          exact HO.out.drewN _
      · have HA := Lib.hid hA
        clear hA
        go_wp2
        refine ⟨⟨n + 1, by omega, by go_num, HA.out.bel, HA.out.res, HA.out.out⟩, by simp [intOf]; omega⟩
    · obtain rfl : n = len := by omega
      obtain ⟨wo, rfl⟩ : ∃ wo : World, wo = wr := ⟨_, rfl⟩
      obtain ⟨hb, rr, ro⟩ := hA
      have z0 : wo.cell? ⟨w.heap.size, 0, none⟩ = some (.int .i64 0) := rr.cell 0
      have z1 : wo.cell? ⟨w.heap.size, 1, none⟩ = some (.int .i64 0) := rr.cell 1
      have z2 : wo.cell? ⟨w.heap.size, 2, none⟩ = some (.int .i64 0) := rr.cell 2
      have fz0 : wo.frozen? ⟨w.heap.size, 0, none⟩ = false := rr.frozen 0
      have fz1 : wo.frozen? ⟨w.heap.size, 1, none⟩ = false := rr.frozen 1
      have fz2 : wo.frozen? ⟨w.heap.size, 2, none⟩ = false := rr.frozen 2
      have o0 : wo.cell? ⟨w.heap.size + 1, 0, none⟩ = some (.int .i64 (mnTo f 0 n)) := ro.cell 0
      have o1 : wo.cell? ⟨w.heap.size + 1, 1, none⟩ = some (.int .i64 (mnTo f 1 n)) := ro.cell 1
      have o2 : wo.cell? ⟨w.heap.size + 1, 2, none⟩ = some (.int .i64 (mnTo f 2 n)) := ro.cell 2
      have sh := ro.lt
      have sl := rr.lt
      have HB := Lib.hid hb
      have HR := Lib.hid rr
      have HO := Lib.hid ro
      clear hb rr ro
      by_cases hr : rightB s (mnTo f 0 n) (mnTo f 1 n) (mnTo f 2 n) = true
      · have RL : ∀ W, Calls Try.prog 13 #[.int .i64 s, .agg #[.int .i64 (mnTo f 0 n), .int .i64 (mnTo f 1 n), .int .i64 (mnTo f 2 n)]] W fun e w' => e = .returned (.bool true) ∧ Below W.heap.size W w' := fun W => by have := refRight_any s (mnTo f 0 n) (mnTo f 1 n) (mnTo f 2 n) W; rw [hr] at this; exact this
        have RL := Lib.hid RL
        have HRT := Lib.hid hr
        clear hr
        go_wp2_with fail
        refine (RL.out _).mono ?_
        rintro e w2 ⟨rfl, hb2⟩
        have sl2 : w.heap.size < w2.heap.size := by have := hb2.size; omega
        have sh2 : w.heap.size + 1 < w2.heap.size := by have := hb2.size; omega
        have HB2 := Lib.hid (below_then HB.out hb2)
        have HR2 := Lib.hid (HR.out.below hb2 sl)
        have HO2 := Lib.hid (HO.out.below hb2 sh)
        clear hb2 HB HR HO z0 z1 z2 fz0 fz1 fz2 o0 o1 o2
        go_wp2
        go_loopw [9] (fun i wr => RFitChk f s (mnTo f 0 n) (mnTo f 1 n) (mnTo f 2 n) w n i wr) (fun i _ => n - (intOf i).toNat)
        case atStart => exact ⟨0, by omega, rfl, HB2.out, HR2.out, HO2.out, rfl⟩
        case round =>
        clear HB2 HR2 HO2 sl2 sh2
        obtain ⟨m, hm, rfl, hb, rr, ro, hall⟩ := hrel
        obtain ⟨wo, rfl⟩ : ∃ wo : World, wo = wr := ⟨_, rfl⟩
        have z0 : wo.cell? ⟨w.heap.size, 0, none⟩ = some (.int .i64 0) := rr.cell 0
        have z1 : wo.cell? ⟨w.heap.size, 1, none⟩ = some (.int .i64 0) := rr.cell 1
        have z2 : wo.cell? ⟨w.heap.size, 2, none⟩ = some (.int .i64 0) := rr.cell 2
        have fz0 : wo.frozen? ⟨w.heap.size, 0, none⟩ = false := rr.frozen 0
        have fz1 : wo.frozen? ⟨w.heap.size, 1, none⟩ = false := rr.frozen 1
        have fz2 : wo.frozen? ⟨w.heap.size, 2, none⟩ = false := rr.frozen 2
        have o0 : wo.cell? ⟨w.heap.size + 1, 0, none⟩ = some (.int .i64 (mnTo f 0 n)) := ro.cell 0
        have o1 : wo.cell? ⟨w.heap.size + 1, 1, none⟩ = some (.int .i64 (mnTo f 1 n)) := ro.cell 1
        have o2 : wo.cell? ⟨w.heap.size + 1, 2, none⟩ = some (.int .i64 (mnTo f 2 n)) := ro.cell 2
        have sh := ro.lt
        have sl := rr.lt
        by_cases hlt : m < n
        · have e0 := HC.out m 0 hlt (by omega)
          have e1 := HC.out m 1 hlt (by omega)
          have e2 := HC.out m 2 hlt (by omega)
          have k0 : wo.cell? ⟨b, off + m * 3, none⟩ = some (.int .i64 (f m 0)) := (hb.cell (World.block_lt_of_cell? _ _ e0)).trans e0
          have k1 : wo.cell? ⟨b, off + m * 3 + 1, none⟩ = some (.int .i64 (f m 1)) := (hb.cell (World.block_lt_of_cell? _ _ e1)).trans e1
          have k2 : wo.cell? ⟨b, off + m * 3 + 2, none⟩ = some (.int .i64 (f m 2)) := (hb.cell (World.block_lt_of_cell? _ _ e2)).trans e2
          have bl : b < wo.heap.size := World.block_lt_of_cell? _ _ k0
          have i1 : (0 : Int) ≤ (m : Int) := by omega
          have i2 : (m : Int) < (n : Int) := by omega
          clear e0 e1 e2
          have HB := Lib.hid hb
          have HR := Lib.hid rr
          have HO := Lib.hid ro
          have HA := Lib.hid hall
          clear hb rr ro hall
          by_cases ho : snOk f s (mnTo f 0 n) (mnTo f 1 n) (mnTo f 2 n) m = true
          · have SY : Hid (∀ W, Calls Try.prog 15 #[.int .i64 s, .agg #[.int .i64 (mnTo f 0 n), .int .i64 (mnTo f 1 n), .int .i64 (mnTo f 2 n)], .agg #[.int .i64 (f m 0), .int .i64 (f m 1), .int .i64 (f m 2)]] W fun e w' => e = .returned (.tuple #[.agg #[.int .i64 (snapX s (f m 0 - mnTo f 0 n)), .int .i64 (snapX s (f m 1 - mnTo f 1 n)), .int .i64 (snapX s (f m 2 - mnTo f 2 n))], .bool true]) ∧ Below W.heap.size W w') := fun W => by
              have := refSnap_any s (mnTo f 0 n) (mnTo f 1 n) (mnTo f 2 n) (f m 0) (f m 1) (f m 2) W HRT.out
              unfold refSnapV at this
              rw [show snapOk s (mnTo f 0 n) (mnTo f 1 n) (mnTo f 2 n) (f m 0) (f m 1) (f m 2) = true from ho] at this
              exact this
            have HS := Lib.hid ho
            clear ho
            go_wp2_with fail
            have hk : ∀ w', Below wo.heap.size wo w' → ∀ b o, b < wo.heap.size → w'.cell? ⟨b, o, none⟩ = wo.cell? ⟨b, o, none⟩ := fun w' h b o hb => h.cell (p := ⟨b, o, none⟩) hb
            go_region_held3 (fun w' => Below wo.heap.size wo w') ((repeat' (first | with_reducible assumption | with_reducible exact Below.refl _ _ | with_reducible refine Below.drew ?_ | with_reducible refine below_alloc ?_ _ | with_reducible refine below_set ?_ ?_ _ | with_reducible refine below_then ?_ (by with_reducible assumption) | with_reducible exact Nat.le_refl _ | with_reducible exact Below.size (by with_reducible assumption))))
              (first | (go_at_call 15; ((with_reducible refine (SY.out _).mono ?_); rintro e w3 ⟨rfl, hb3⟩; have ⟨hc3, hz3⟩ := bcell hb3; have hb4 : Below wo.heap.size wo w3 := (by (repeat' (first | with_reducible assumption | with_reducible exact Below.refl _ _ | with_reducible refine Below.drew ?_ | with_reducible refine below_alloc ?_ _ | with_reducible refine below_set ?_ ?_ _ | with_reducible refine below_then ?_ (by with_reducible assumption) | with_reducible exact Nat.le_refl _ | with_reducible exact Below.size (by with_reducible assumption)))); have ⟨hc4, hz4⟩ := bcell hb4; have q1 : w.heap.size < w3.heap.size := (by have := hb4.size; omega); have q2 : wo.heap.size ≤ w3.heap.size := hb4.size)))
            all_goals go_wp2
            all_goals
              refine ⟨⟨m + 1, by omega, by go_num, below_then HB.out (b := _) (by (repeat' (first | with_reducible assumption | with_reducible exact Below.refl _ _ | with_reducible refine Below.drew ?_ | with_reducible refine below_alloc ?_ _ | with_reducible refine below_set ?_ ?_ _ | with_reducible refine below_then ?_ (by with_reducible assumption) | with_reducible exact Nat.le_refl _ | with_reducible exact Below.size (by with_reducible assumption)))), HR.out.below (B := wo.heap.size) (by (repeat' (first | with_reducible assumption | with_reducible exact Below.refl _ _ | with_reducible refine Below.drew ?_ | with_reducible refine below_alloc ?_ _ | with_reducible refine below_set ?_ ?_ _ | with_reducible refine below_then ?_ (by with_reducible assumption) | with_reducible exact Nat.le_refl _ | with_reducible exact Below.size (by with_reducible assumption)))) sl, HO.out.below (B := wo.heap.size) (by (repeat' (first | with_reducible assumption | with_reducible exact Below.refl _ _ | with_reducible refine Below.drew ?_ | with_reducible refine below_alloc ?_ _ | with_reducible refine below_set ?_ ?_ _ | with_reducible refine below_then ?_ (by with_reducible assumption) | with_reducible exact Nat.le_refl _ | with_reducible exact Below.size (by with_reducible assumption)))) sh, ?_⟩, by simp [intOf]; omega⟩
              show (allOk f s _ _ _ m && snOk f s _ _ _ m) = true
              rw [HA.out, HS.out]
              rfl
          · have ho : snOk f s (mnTo f 0 n) (mnTo f 1 n) (mnTo f 2 n) m = false := by simpa using ho
            have SN : Hid (∀ W, Calls Try.prog 15 #[.int .i64 s, .agg #[.int .i64 (mnTo f 0 n), .int .i64 (mnTo f 1 n), .int .i64 (mnTo f 2 n)], .agg #[.int .i64 (f m 0), .int .i64 (f m 1), .int .i64 (f m 2)]] W fun e w' => e = .returned (.tuple #[.agg #[.int .i64 0, .int .i64 0, .int .i64 0], .bool false]) ∧ Below W.heap.size W w') := fun W => by
              have := refSnap_any s (mnTo f 0 n) (mnTo f 1 n) (mnTo f 2 n) (f m 0) (f m 1) (f m 2) W HRT.out
              unfold refSnapV at this
              rw [show snapOk s (mnTo f 0 n) (mnTo f 1 n) (mnTo f 2 n) (f m 0) (f m 1) (f m 2) = false from ho] at this
              exact this
            have HE : Hid (rfitV f s n = .tuple #[.agg #[.int .i64 0, .int .i64 0, .int .i64 0], .int .i64 2]) := by
              show rfitV f s n = _
              unfold rfitV
              rw [allOk_not f s _ _ _ n m hlt ho, Bool.and_false, if_neg (by simp)]
            clear ho
            go_wp2_with fail
            have hk : ∀ w', Below wo.heap.size wo w' → ∀ b o, b < wo.heap.size → w'.cell? ⟨b, o, none⟩ = wo.cell? ⟨b, o, none⟩ := fun w' h b o hb => h.cell (p := ⟨b, o, none⟩) hb
            go_region_held3 (fun w' => Below wo.heap.size wo w') ((repeat' (first | with_reducible assumption | with_reducible exact Below.refl _ _ | with_reducible refine Below.drew ?_ | with_reducible refine below_alloc ?_ _ | with_reducible refine below_set ?_ ?_ _ | with_reducible refine below_then ?_ (by with_reducible assumption) | with_reducible exact Nat.le_refl _ | with_reducible exact Below.size (by with_reducible assumption))))
              (first | (go_at_call 15; ((with_reducible refine (SN.out _).mono ?_); rintro e w3 ⟨rfl, hb3⟩; have ⟨hc3, hz3⟩ := bcell hb3; have hb4 : Below wo.heap.size wo w3 := (by (repeat' (first | with_reducible assumption | with_reducible exact Below.refl _ _ | with_reducible refine Below.drew ?_ | with_reducible refine below_alloc ?_ _ | with_reducible refine below_set ?_ ?_ _ | with_reducible refine below_then ?_ (by with_reducible assumption) | with_reducible exact Nat.le_refl _ | with_reducible exact Below.size (by with_reducible assumption)))); have ⟨hc4, hz4⟩ := bcell hb4; have q1 : w.heap.size < w3.heap.size := (by have := hb4.size; omega); have q2 : wo.heap.size ≤ w3.heap.size := hb4.size)))
            all_goals go_wp2
            all_goals
              exact bodyPost_ret (v := .tuple #[.agg #[.int .i64 0, .int .i64 0, .int .i64 0], .int .i64 2]) (by unfold results; simp only [Try.results22]; go_simp) rfl ⟨by rw [HE.out], by have hb := below_then HB.out hb4; (repeat (first | with_reducible exact Below.refl _ _ | with_reducible assumption | with_reducible refine below_drewN ?_ _ | with_reducible refine Below.drew ?_ | with_reducible refine Below.alloc ?_ (by first | exact Nat.le_refl _ | (simp; done) | (simp; omega) | omega) _ | with_reducible refine Below.setCell ?_ (by first | exact Nat.le_refl _ | (simp; done) | (simp; omega) | omega) _ | with_reducible refine Below.trans ?_ (Below.mono (by with_reducible assumption) (by first | exact Nat.le_refl _ | (simp; done) | (simp; omega) | omega))))⟩
        · obtain rfl : m = n := by omega
          have HE : Hid (rfitV f s m = .tuple #[.agg #[.int .i64 (mnTo f 0 m), .int .i64 (mnTo f 1 m), .int .i64 (mnTo f 2 m)], .int .i64 0]) := by
            show rfitV f s m = _
            unfold rfitV
            rw [hall, HRT.out, Bool.and_self, if_pos rfl]
          have HB := Lib.hid hb
          clear hb rr ro hall
          go_wp2
          refine bodyPost_ret (v := .tuple #[.agg #[.int .i64 (mnTo f 0 m), .int .i64 (mnTo f 1 m), .int .i64 (mnTo f 2 m)], .int .i64 0]) (by unfold results; simp only [Try.results22]; go_simp) rfl ⟨by rw [HE.out], ?_⟩
          have hb := HB.out
          (repeat (first | with_reducible exact Below.refl _ _ | with_reducible assumption | with_reducible refine below_drewN ?_ _ | with_reducible refine Below.drew ?_ | with_reducible refine Below.alloc ?_ (by first | exact Nat.le_refl _ | (simp; done) | (simp; omega) | omega) _ | with_reducible refine Below.setCell ?_ (by first | exact Nat.le_refl _ | (simp; done) | (simp; omega) | omega) _ | with_reducible refine Below.trans ?_ (Below.mono (by with_reducible assumption) (by first | exact Nat.le_refl _ | (simp; done) | (simp; omega) | omega))))
      · have hr : rightB s (mnTo f 0 n) (mnTo f 1 n) (mnTo f 2 n) = false := by simpa using hr
        have RL : ∀ W, Calls Try.prog 13 #[.int .i64 s, .agg #[.int .i64 (mnTo f 0 n), .int .i64 (mnTo f 1 n), .int .i64 (mnTo f 2 n)]] W fun e w' => e = .returned (.bool false) ∧ Below W.heap.size W w' := fun W => by have := refRight_any s (mnTo f 0 n) (mnTo f 1 n) (mnTo f 2 n) W; rw [hr] at this; exact this
        have RL := Lib.hid RL
        have HE : Hid (rfitV f s n = .tuple #[.agg #[.int .i64 0, .int .i64 0, .int .i64 0], .int .i64 2]) := by
          show rfitV f s n = _
          unfold rfitV
          rw [hr, Bool.false_and, if_neg (by simp)]
        clear hr
        go_wp2_with fail
        refine (RL.out _).mono ?_
        rintro e w2 ⟨rfl, hb2⟩
        obtain ⟨hc2, hz2⟩ := bcell hb2
        have HB2 := Lib.hid (below_then HB.out hb2)
        have sl2 : w.heap.size < w2.heap.size := by have := hb2.size; omega
        clear hb2
        go_wp2
        exact bodyPost_ret (v := .tuple #[.agg #[.int .i64 0, .int .i64 0, .int .i64 0], .int .i64 2]) (by unfold results; simp only [Try.results22]; go_simp) rfl ⟨by rw [HE.out], by have hb := HB2.out; (repeat (first | with_reducible exact Below.refl _ _ | with_reducible assumption | with_reducible refine below_drewN ?_ _ | with_reducible refine Below.drew ?_ | with_reducible refine Below.alloc ?_ (by first | exact Nat.le_refl _ | (simp; done) | (simp; omega) | omega) _ | with_reducible refine Below.setCell ?_ (by first | exact Nat.le_refl _ | (simp; done) | (simp; omega) | omega) _ | with_reducible refine Below.trans ?_ (Below.mono (by with_reducible assumption) (by first | exact Nat.le_refl _ | (simp; done) | (simp; omega) | omega))))⟩
end Go.Proofs.Ytppkbnajpeoaaaa
