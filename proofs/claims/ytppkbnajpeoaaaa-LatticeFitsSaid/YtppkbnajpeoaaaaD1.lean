/- Box: plain facts and its walk. -/
import Derived.Test.YtppkbnajpeoaaaaB3
import Derived.Deep.QuietTactic
import Derived.BigQuiet
namespace Go.Proofs.Ytppkbnajpeoaaaa
open Go.RowKit

theorem Rw.setv {w : World} {b i : Nat} {u : Value} {xs ys : List Value} (h : Rw w b ys) (hx : ys.set i u = xs) : Rw (w.setCell ⟨b, i, none⟩ u) b xs := by
  subst hx; exact h.set i u
def loTo (f : Nat → Nat → Int) (k : Nat) : Nat → Int
  | 0 => 0
  | n + 1 => if n = 0 ∨ f n k < loTo f k n then f n k else loTo f k n
def hiTo (f : Nat → Nat → Int) (k : Nat) : Nat → Int
  | 0 => 0
  | n + 1 => if n = 0 ∨ hiTo f k n < f n k then f n k else hiTo f k n
theorem box_ways (f : Nat → Nat → Int) (n k : Nat) :
    (n = 0 ∧ loTo f k (n + 1) = f n k ∧ hiTo f k (n + 1) = f n k) ∨
    (((n : Int) == 0) = false ∧ ((f n k < loTo f k n ∧ loTo f k (n + 1) = f n k) ∨ (loTo f k n ≤ f n k ∧ loTo f k (n + 1) = loTo f k n)) ∧
      ((hiTo f k n < f n k ∧ hiTo f k (n + 1) = f n k) ∨ (f n k ≤ hiTo f k n ∧ hiTo f k (n + 1) = hiTo f k n))) := by
  by_cases h : n = 0
  · left
    exact ⟨h, by simp [loTo, h], by simp [hiTo, h]⟩
  · right
    refine ⟨by simp; omega, ?_, ?_⟩
    · by_cases g : f n k < loTo f k n
      · exact .inl ⟨g, by simp [loTo, g]⟩
      · exact .inr ⟨by omega, by rw [loTo, if_neg (by omega)]⟩
    · by_cases g : hiTo f k n < f n k
      · exact .inl ⟨g, by simp [hiTo, g]⟩
      · exact .inr ⟨by omega, by rw [hiTo, if_neg (by omega)]⟩
structure BoxAt (f : Nat → Nat → Int) (w : World) (n : Nat) (wr : World) : Prop where
  bel : Below w.heap.size w wr
  lo : Rw wr w.heap.size (i3 (loTo f 0 n) (loTo f 1 n) (loTo f 2 n))
  hi : Rw wr (w.heap.size + 1) (i3 (hiTo f 0 n) (hiTo f 1 n) (hiTo f 2 n))
def half (g : Nat → Int) (h : Nat → Int) (k : Nat) : List Value := i3 (if 0 < k then h 0 else g 0) (if 1 < k then h 1 else g 1) (if 2 < k then h 2 else g 2)
theorem half_keep (g h : Nat → Int) (k : Nat) (hk : k < 3) (e : h k = g k) : half g h (k + 1) = half g h k := by
  rcases (show k = 0 ∨ k = 1 ∨ k = 2 by omega) with rfl | rfl | rfl <;> simp [half, e]
theorem half_set (g h : Nat → Int) (k : Nat) (x : Int) (hk : k < 3) (e : h k = x) : (half g h k).set k (.int .i64 x) = half g h (k + 1) := by
  rcases (show k = 0 ∨ k = 1 ∨ k = 2 by omega) with rfl | rfl | rfl <;> simp [half, i3, e]
structure BoxIn (f : Nat → Nat → Int) (w : World) (B n k : Nat) (wr : World) : Prop where
  bel : Below w.heap.size w wr
  x : Rw wr B (i3 (f n 0) (f n 1) (f n 2))
  lo : Rw wr w.heap.size (half (fun j => loTo f j n) (fun j => loTo f j (n + 1)) k)
  hi : Rw wr (w.heap.size + 1) (half (fun j => hiTo f j n) (fun j => hiTo f j (n + 1)) k)
def BoxInRel (f : Nat → Nat → Int) (w : World) (B n : Nat) (i : Value) (wr : World) : Prop :=
  (i = .int .i64 0 ∧ BoxIn f w B n 0 wr) ∨ (i = .int .i64 1 ∧ BoxIn f w B n 1 wr) ∨ (i = .int .i64 2 ∧ BoxIn f w B n 2 wr) ∨ (i = .int .i64 3 ∧ BoxIn f w B n 3 wr)
def BoxRel (f : Nat → Nat → Int) (w : World) (len : Nat) (i : Value) (wr : World) : Prop := ∃ n : Nat, n ≤ len ∧ i = .int .i64 n ∧ BoxAt f w n wr

set_option maxHeartbeats 4000000 in
theorem box_some (b off len cap : Nat) (f : Nat → Nat → Int) (w : World) (hl : len ≤ 40) (hcap : len ≤ cap)
   (hc : ∀ i k, i < len → k < 3 → w.cell? ⟨b, off + i * 3 + k, none⟩ = some (.int .i64 (f i k))) :
    Calls Try.prog 20 #[.slice (some ⟨b, off, none⟩) len cap] w fun e w' => e = .returned (.tuple #[.agg #[.int .i64 (loTo f 0 len), .int .i64 (loTo f 1 len), .int .i64 (loTo f 2 len)], .agg #[.int .i64 (hiTo f 0 len), .int .i64 (hiTo f 1 len), .int .i64 (hiTo f 2 len)]]) ∧ Below w.heap.size w w' := by
  have HC := Lib.hid hc
  clear hc
  go_enter Try.func20, Try.ntmps20
  go_wp2
  go_loopw [9] (fun i wr => BoxRel f w len i wr) (fun i _ => len - (intOf i).toNat)
  case atStart =>
    refine ⟨0, by omega, rfl, by (repeat (first | with_reducible exact Below.refl _ _ | with_reducible assumption | with_reducible refine below_drewN ?_ _ | with_reducible refine Below.drew ?_ | with_reducible refine Below.alloc ?_ (by first | exact Nat.le_refl _ | (simp; done) | (simp; omega) | omega) _ | with_reducible refine Below.setCell ?_ (by first | exact Nat.le_refl _ | (simp; done) | (simp; omega) | omega) _ | with_reducible refine Below.trans ?_ (Below.mono (by with_reducible assumption) (by first | exact Nat.le_refl _ | (simp; done) | (simp; omega) | omega)))), ?_, ?_⟩
    · exact (Rw.new' (i3 0 0 0) rfl).alloc _
    · exact Rw.new' (i3 0 0 0) (by first | (simp; done) | (simp; omega) | omega)
  case round =>
    obtain ⟨n, hn, rfl, hA⟩ := hrel
    by_cases hlt : n < len
    · obtain ⟨wo, rfl⟩ : ∃ wo : World, wo = wr := ⟨_, rfl⟩
      obtain ⟨hb, rl, rh⟩ := hA
      have e0 := HC.out n 0 hlt (by omega)
      have e1 := HC.out n 1 hlt (by omega)
      have e2 := HC.out n 2 hlt (by omega)
      have k0 : wo.cell? ⟨b, off + n * 3, none⟩ = some (.int .i64 (f n 0)) := (hb.cell (World.block_lt_of_cell? _ _ e0)).trans e0
      have k1 : wo.cell? ⟨b, off + n * 3 + 1, none⟩ = some (.int .i64 (f n 1)) := (hb.cell (World.block_lt_of_cell? _ _ e1)).trans e1
      have k2 : wo.cell? ⟨b, off + n * 3 + 2, none⟩ = some (.int .i64 (f n 2)) := (hb.cell (World.block_lt_of_cell? _ _ e2)).trans e2
      have sl := rl.lt
      have sh := rh.lt
      have HB := Lib.hid hb
      have HL := Lib.hid rl
      have HH := Lib.hid rh
      clear hb rl rh e0 e1 e2
      go_wp2
      go_loopw [14] (fun i wr => BoxInRel f w wo.heap.size n i wr) (fun i _ => 3 - (intOf i).toNat)
      case atStart =>
        have hb := HB.out
        refine .inl ⟨rfl, by (repeat (first | with_reducible exact Below.refl _ _ | with_reducible assumption | with_reducible refine below_drewN ?_ _ | with_reducible refine Below.drew ?_ | with_reducible refine Below.alloc ?_ (by first | exact Nat.le_refl _ | (simp; done) | (simp; omega) | omega) _ | with_reducible refine Below.setCell ?_ (by first | exact Nat.le_refl _ | (simp; done) | (simp; omega) | omega) _ | with_reducible refine Below.trans ?_ (Below.mono (by with_reducible assumption) (by first | exact Nat.le_refl _ | (simp; done) | (simp; omega) | omega)))), Rw.new' (i3 (f n 0) (f n 1) (f n 2)) rfl, HL.out.alloc _, HH.out.alloc _⟩
      case round =>
      clear k0 k1 k2
      rcases hrel with ⟨rfl, hA⟩ | ⟨rfl, hA⟩ | ⟨rfl, hA⟩ | ⟨rfl, hA⟩
      · obtain ⟨hb, rx, rl, rh⟩ := hA
        have cx : wr.cell? ⟨wo.heap.size, 0, none⟩ = some (.int .i64 (f n 0)) := rx.cell 0
        have cl : wr.cell? ⟨w.heap.size, 0, none⟩ = some (.int .i64 (loTo f 0 n)) := rl.cell 0
        have ch : wr.cell? ⟨w.heap.size + 1, 0, none⟩ = some (.int .i64 (hiTo f 0 n)) := rh.cell 0
        have fl : wr.frozen? ⟨w.heap.size, 0, none⟩ = false := rl.frozen 0
        have fh : wr.frozen? ⟨w.heap.size + 1, 0, none⟩ = false := rh.frozen 0
        have hway := box_ways f n 0
        have HB := Lib.hid hb
        have HX := Lib.hid rx
        have HL := Lib.hid rl
        have HH := Lib.hid rh
        clear hb rx rl rh
        obtain ⟨x, hx⟩ : ∃ x, x = f n 0 := ⟨_, rfl⟩
        obtain ⟨l, hl2⟩ : ∃ l, l = loTo f 0 n := ⟨_, rfl⟩
        obtain ⟨g, hg⟩ : ∃ g, g = hiTo f 0 n := ⟨_, rfl⟩
        rw [← hx] at cx hway
        rw [← hl2] at cl hway
        rw [← hg] at ch hway
        have EX := Lib.hid hx
        have EL := Lib.hid hl2
        have EG := Lib.hid hg
        clear hx hl2 hg
        rcases hway with ⟨rfl, v1, v2⟩ | ⟨hn0, ⟨g1, v1⟩ | ⟨g1, v1⟩, ⟨g2, v2⟩ | ⟨g2, v2⟩⟩
        · have V1 := Lib.hid v1
          have V2 := Lib.hid v2
          clear v1 v2
          go_wp2
          go_quiet (fail)
          go_wp2
          go_quiet (fail)
          go_wp2
          refine ⟨.inr (.inl ⟨rfl, ?_⟩), by simp [intOf]⟩
          have hb := HB.out
          have rx := HX.out
          have rl := HL.out
          have rh := HH.out
          refine ⟨by (repeat (first | with_reducible exact Below.refl _ _ | with_reducible assumption | with_reducible refine below_drewN ?_ _ | with_reducible refine Below.drew ?_ | with_reducible refine Below.alloc ?_ (by first | exact Nat.le_refl _ | (simp; done) | (simp; omega) | omega) _ | with_reducible refine Below.setCell ?_ (by first | exact Nat.le_refl _ | (simp; done) | (simp; omega) | omega) _ | with_reducible refine Below.trans ?_ (Below.mono (by with_reducible assumption) (by first | exact Nat.le_refl _ | (simp; done) | (simp; omega) | omega)))), ?_, ?_, ?_⟩
          · exact ((((rx.drewN _).far (by first | (simp; done) | (simp; omega) | omega) _).drewN _).far (by first | (simp; done) | (simp; omega) | omega) _)
          · rw [← half_set (fun j => loTo f j 0) (fun j => loTo f j (0 + 1)) 0 x (by omega) V1.out]
            exact ((((rl.drewN _).set 0 _).drewN _).far (by first | (simp; done) | (simp; omega) | omega) _)
          · rw [← half_set (fun j => hiTo f j 0) (fun j => hiTo f j (0 + 1)) 0 x (by omega) V2.out]
            exact ((((rh.drewN _).far (by first | (simp; done) | (simp; omega) | omega) _).drewN _).set 0 _)
        · have V1 := Lib.hid v1
          have V2 := Lib.hid v2
          clear v1 v2
          go_wp2
          go_quiet (fail)
          go_wp2
          go_quiet (fail)
          go_wp2
          refine ⟨.inr (.inl ⟨rfl, ?_⟩), by simp [intOf]⟩
          have hb := HB.out
          have rx := HX.out
          have rl := HL.out
          have rh := HH.out
          refine ⟨by (repeat (first | with_reducible exact Below.refl _ _ | with_reducible assumption | with_reducible refine below_drewN ?_ _ | with_reducible refine Below.drew ?_ | with_reducible refine Below.alloc ?_ (by first | exact Nat.le_refl _ | (simp; done) | (simp; omega) | omega) _ | with_reducible refine Below.setCell ?_ (by first | exact Nat.le_refl _ | (simp; done) | (simp; omega) | omega) _ | with_reducible refine Below.trans ?_ (Below.mono (by with_reducible assumption) (by first | exact Nat.le_refl _ | (simp; done) | (simp; omega) | omega)))), ?_, ?_, ?_⟩
          · exact ((((rx.drewN _).far (by first | (simp; done) | (simp; omega) | omega) _).drewN _).far (by first | (simp; done) | (simp; omega) | omega) _)
          · rw [← half_set (fun j => loTo f j n) (fun j => loTo f j (n + 1)) 0 x (by omega) V1.out]
            exact ((((rl.drewN _).set 0 _).drewN _).far (by first | (simp; done) | (simp; omega) | omega) _)
          · rw [← half_set (fun j => hiTo f j n) (fun j => hiTo f j (n + 1)) 0 x (by omega) V2.out]
            exact ((((rh.drewN _).far (by first | (simp; done) | (simp; omega) | omega) _).drewN _).set 0 _)
        · have V1 := Lib.hid v1
          have V2 := Lib.hid v2
          clear v1 v2
          go_wp2
          go_quiet (fail)
          go_wp2
          go_quiet (fail)
          go_wp2
          refine ⟨.inr (.inl ⟨rfl, ?_⟩), by simp [intOf]⟩
          have hb := HB.out
          have rx := HX.out
          have rl := HL.out
          have rh := HH.out
          refine ⟨by (repeat (first | with_reducible exact Below.refl _ _ | with_reducible assumption | with_reducible refine below_drewN ?_ _ | with_reducible refine Below.drew ?_ | with_reducible refine Below.alloc ?_ (by first | exact Nat.le_refl _ | (simp; done) | (simp; omega) | omega) _ | with_reducible refine Below.setCell ?_ (by first | exact Nat.le_refl _ | (simp; done) | (simp; omega) | omega) _ | with_reducible refine Below.trans ?_ (Below.mono (by with_reducible assumption) (by first | exact Nat.le_refl _ | (simp; done) | (simp; omega) | omega)))), ?_, ?_, ?_⟩
          · exact (((rx.drewN _).far (by first | (simp; done) | (simp; omega) | omega) _).drewN _)
          · rw [← half_set (fun j => loTo f j n) (fun j => loTo f j (n + 1)) 0 x (by omega) V1.out]
            exact (((rl.drewN _).set 0 _).drewN _)
          · rw [half_keep (fun j => hiTo f j n) (fun j => hiTo f j (n + 1)) 0 (by omega) (V2.out.trans EG.out)]
            exact (((rh.drewN _).far (by first | (simp; done) | (simp; omega) | omega) _).drewN _)
        · have V1 := Lib.hid v1
          have V2 := Lib.hid v2
          clear v1 v2
          go_wp2
          go_quiet (fail)
          go_wp2
          go_quiet (fail)
          go_wp2
          refine ⟨.inr (.inl ⟨rfl, ?_⟩), by simp [intOf]⟩
          have hb := HB.out
          have rx := HX.out
          have rl := HL.out
          have rh := HH.out
          refine ⟨by (repeat (first | with_reducible exact Below.refl _ _ | with_reducible assumption | with_reducible refine below_drewN ?_ _ | with_reducible refine Below.drew ?_ | with_reducible refine Below.alloc ?_ (by first | exact Nat.le_refl _ | (simp; done) | (simp; omega) | omega) _ | with_reducible refine Below.setCell ?_ (by first | exact Nat.le_refl _ | (simp; done) | (simp; omega) | omega) _ | with_reducible refine Below.trans ?_ (Below.mono (by with_reducible assumption) (by first | exact Nat.le_refl _ | (simp; done) | (simp; omega) | omega)))), ?_, ?_, ?_⟩
          · exact ((rx.drewN _).far (by first | (simp; done) | (simp; omega) | omega) _)
          · rw [half_keep (fun j => loTo f j n) (fun j => loTo f j (n + 1)) 0 (by omega) (V1.out.trans EL.out)]
            exact ((rl.drewN _).far (by first | (simp; done) | (simp; omega) | omega) _)
          · rw [← half_set (fun j => hiTo f j n) (fun j => hiTo f j (n + 1)) 0 x (by omega) V2.out]
            exact ((rh.drewN _).set 0 _)
        · have V1 := Lib.hid v1
          have V2 := Lib.hid v2
          clear v1 v2
          go_wp2
          go_quiet (fail)
          go_wp2
          go_quiet (fail)
          go_wp2
          refine ⟨.inr (.inl ⟨rfl, ?_⟩), by simp [intOf]⟩
          have hb := HB.out
          have rx := HX.out
          have rl := HL.out
          have rh := HH.out
          refine ⟨by (repeat (first | with_reducible exact Below.refl _ _ | with_reducible assumption | with_reducible refine below_drewN ?_ _ | with_reducible refine Below.drew ?_ | with_reducible refine Below.alloc ?_ (by first | exact Nat.le_refl _ | (simp; done) | (simp; omega) | omega) _ | with_reducible refine Below.setCell ?_ (by first | exact Nat.le_refl _ | (simp; done) | (simp; omega) | omega) _ | with_reducible refine Below.trans ?_ (Below.mono (by with_reducible assumption) (by first | exact Nat.le_refl _ | (simp; done) | (simp; omega) | omega)))), ?_, ?_, ?_⟩
          · exact (rx.drewN _)
          · rw [half_keep (fun j => loTo f j n) (fun j => loTo f j (n + 1)) 0 (by omega) (V1.out.trans EL.out)]
            exact (rl.drewN _)
          · rw [half_keep (fun j => hiTo f j n) (fun j => hiTo f j (n + 1)) 0 (by omega) (V2.out.trans EG.out)]
            exact (rh.drewN _)
      · obtain ⟨hb, rx, rl, rh⟩ := hA
        have cx : wr.cell? ⟨wo.heap.size, 1, none⟩ = some (.int .i64 (f n 1)) := rx.cell 1
        have cl : wr.cell? ⟨w.heap.size, 1, none⟩ = some (.int .i64 (loTo f 1 n)) := rl.cell 1
        have ch : wr.cell? ⟨w.heap.size + 1, 1, none⟩ = some (.int .i64 (hiTo f 1 n)) := rh.cell 1
        have fl : wr.frozen? ⟨w.heap.size, 1, none⟩ = false := rl.frozen 1
        have fh : wr.frozen? ⟨w.heap.size + 1, 1, none⟩ = false := rh.frozen 1
        have hway := box_ways f n 1
        have HB := Lib.hid hb
        have HX := Lib.hid rx
        have HL := Lib.hid rl
        have HH := Lib.hid rh
        clear hb rx rl rh
        obtain ⟨x, hx⟩ : ∃ x, x = f n 1 := ⟨_, rfl⟩
        obtain ⟨l, hl2⟩ : ∃ l, l = loTo f 1 n := ⟨_, rfl⟩
        obtain ⟨g, hg⟩ : ∃ g, g = hiTo f 1 n := ⟨_, rfl⟩
        rw [← hx] at cx hway
        rw [← hl2] at cl hway
        rw [← hg] at ch hway
        have EX := Lib.hid hx
        have EL := Lib.hid hl2
        have EG := Lib.hid hg
        clear hx hl2 hg
        rcases hway with ⟨rfl, v1, v2⟩ | ⟨hn0, ⟨g1, v1⟩ | ⟨g1, v1⟩, ⟨g2, v2⟩ | ⟨g2, v2⟩⟩
        · have V1 := Lib.hid v1
          have V2 := Lib.hid v2
          clear v1 v2
          go_wp2
          go_quiet (fail)
          go_wp2
          go_quiet (fail)
          go_wp2
          refine ⟨.inr (.inr (.inl ⟨rfl, ?_⟩)), by simp [intOf]⟩
          have hb := HB.out
          have rx := HX.out
          have rl := HL.out
          have rh := HH.out
          refine ⟨by (repeat (first | with_reducible exact Below.refl _ _ | with_reducible assumption | with_reducible refine below_drewN ?_ _ | with_reducible refine Below.drew ?_ | with_reducible refine Below.alloc ?_ (by first | exact Nat.le_refl _ | (simp; done) | (simp; omega) | omega) _ | with_reducible refine Below.setCell ?_ (by first | exact Nat.le_refl _ | (simp; done) | (simp; omega) | omega) _ | with_reducible refine Below.trans ?_ (Below.mono (by with_reducible assumption) (by first | exact Nat.le_refl _ | (simp; done) | (simp; omega) | omega)))), ?_, ?_, ?_⟩
          · exact ((((rx.drewN _).far (by first | (simp; done) | (simp; omega) | omega) _).drewN _).far (by first | (simp; done) | (simp; omega) | omega) _)
          · rw [← half_set (fun j => loTo f j 0) (fun j => loTo f j (0 + 1)) 1 x (by omega) V1.out]
            exact ((((rl.drewN _).set 1 _).drewN _).far (by first | (simp; done) | (simp; omega) | omega) _)
          · rw [← half_set (fun j => hiTo f j 0) (fun j => hiTo f j (0 + 1)) 1 x (by omega) V2.out]
            exact ((((rh.drewN _).far (by first | (simp; done) | (simp; omega) | omega) _).drewN _).set 1 _)
        · have V1 := Lib.hid v1
          have V2 := Lib.hid v2
          clear v1 v2
          go_wp2
          go_quiet (fail)
          go_wp2
          go_quiet (fail)
          go_wp2
          refine ⟨.inr (.inr (.inl ⟨rfl, ?_⟩)), by simp [intOf]⟩
          have hb := HB.out
          have rx := HX.out
          have rl := HL.out
          have rh := HH.out
          refine ⟨by (repeat (first | with_reducible exact Below.refl _ _ | with_reducible assumption | with_reducible refine below_drewN ?_ _ | with_reducible refine Below.drew ?_ | with_reducible refine Below.alloc ?_ (by first | exact Nat.le_refl _ | (simp; done) | (simp; omega) | omega) _ | with_reducible refine Below.setCell ?_ (by first | exact Nat.le_refl _ | (simp; done) | (simp; omega) | omega) _ | with_reducible refine Below.trans ?_ (Below.mono (by with_reducible assumption) (by first | exact Nat.le_refl _ | (simp; done) | (simp; omega) | omega)))), ?_, ?_, ?_⟩
          · exact ((((rx.drewN _).far (by first | (simp; done) | (simp; omega) | omega) _).drewN _).far (by first | (simp; done) | (simp; omega) | omega) _)
          · rw [← half_set (fun j => loTo f j n) (fun j => loTo f j (n + 1)) 1 x (by omega) V1.out]
            exact ((((rl.drewN _).set 1 _).drewN _).far (by first | (simp; done) | (simp; omega) | omega) _)
          · rw [← half_set (fun j => hiTo f j n) (fun j => hiTo f j (n + 1)) 1 x (by omega) V2.out]
            exact ((((rh.drewN _).far (by first | (simp; done) | (simp; omega) | omega) _).drewN _).set 1 _)
        · have V1 := Lib.hid v1
          have V2 := Lib.hid v2
          clear v1 v2
          go_wp2
          go_quiet (fail)
          go_wp2
          go_quiet (fail)
          go_wp2
          refine ⟨.inr (.inr (.inl ⟨rfl, ?_⟩)), by simp [intOf]⟩
          have hb := HB.out
          have rx := HX.out
          have rl := HL.out
          have rh := HH.out
          refine ⟨by (repeat (first | with_reducible exact Below.refl _ _ | with_reducible assumption | with_reducible refine below_drewN ?_ _ | with_reducible refine Below.drew ?_ | with_reducible refine Below.alloc ?_ (by first | exact Nat.le_refl _ | (simp; done) | (simp; omega) | omega) _ | with_reducible refine Below.setCell ?_ (by first | exact Nat.le_refl _ | (simp; done) | (simp; omega) | omega) _ | with_reducible refine Below.trans ?_ (Below.mono (by with_reducible assumption) (by first | exact Nat.le_refl _ | (simp; done) | (simp; omega) | omega)))), ?_, ?_, ?_⟩
          · exact (((rx.drewN _).far (by first | (simp; done) | (simp; omega) | omega) _).drewN _)
          · rw [← half_set (fun j => loTo f j n) (fun j => loTo f j (n + 1)) 1 x (by omega) V1.out]
            exact (((rl.drewN _).set 1 _).drewN _)
          · rw [half_keep (fun j => hiTo f j n) (fun j => hiTo f j (n + 1)) 1 (by omega) (V2.out.trans EG.out)]
            exact (((rh.drewN _).far (by first | (simp; done) | (simp; omega) | omega) _).drewN _)
        · have V1 := Lib.hid v1
          have V2 := Lib.hid v2
          clear v1 v2
          go_wp2
          go_quiet (fail)
          go_wp2
          go_quiet (fail)
          go_wp2
          refine ⟨.inr (.inr (.inl ⟨rfl, ?_⟩)), by simp [intOf]⟩
          have hb := HB.out
          have rx := HX.out
          have rl := HL.out
          have rh := HH.out
          refine ⟨by (repeat (first | with_reducible exact Below.refl _ _ | with_reducible assumption | with_reducible refine below_drewN ?_ _ | with_reducible refine Below.drew ?_ | with_reducible refine Below.alloc ?_ (by first | exact Nat.le_refl _ | (simp; done) | (simp; omega) | omega) _ | with_reducible refine Below.setCell ?_ (by first | exact Nat.le_refl _ | (simp; done) | (simp; omega) | omega) _ | with_reducible refine Below.trans ?_ (Below.mono (by with_reducible assumption) (by first | exact Nat.le_refl _ | (simp; done) | (simp; omega) | omega)))), ?_, ?_, ?_⟩
          · exact ((rx.drewN _).far (by first | (simp; done) | (simp; omega) | omega) _)
          · rw [half_keep (fun j => loTo f j n) (fun j => loTo f j (n + 1)) 1 (by omega) (V1.out.trans EL.out)]
            exact ((rl.drewN _).far (by first | (simp; done) | (simp; omega) | omega) _)
          · rw [← half_set (fun j => hiTo f j n) (fun j => hiTo f j (n + 1)) 1 x (by omega) V2.out]
            exact ((rh.drewN _).set 1 _)
        · have V1 := Lib.hid v1
          have V2 := Lib.hid v2
          clear v1 v2
          go_wp2
          go_quiet (fail)
          go_wp2
          go_quiet (fail)
          go_wp2
          refine ⟨.inr (.inr (.inl ⟨rfl, ?_⟩)), by simp [intOf]⟩
          have hb := HB.out
          have rx := HX.out
          have rl := HL.out
          have rh := HH.out
          refine ⟨by (repeat (first | with_reducible exact Below.refl _ _ | with_reducible assumption | with_reducible refine below_drewN ?_ _ | with_reducible refine Below.drew ?_ | with_reducible refine Below.alloc ?_ (by first | exact Nat.le_refl _ | (simp; done) | (simp; omega) | omega) _ | with_reducible refine Below.setCell ?_ (by first | exact Nat.le_refl _ | (simp; done) | (simp; omega) | omega) _ | with_reducible refine Below.trans ?_ (Below.mono (by with_reducible assumption) (by first | exact Nat.le_refl _ | (simp; done) | (simp; omega) | omega)))), ?_, ?_, ?_⟩
          · exact (rx.drewN _)
          · rw [half_keep (fun j => loTo f j n) (fun j => loTo f j (n + 1)) 1 (by omega) (V1.out.trans EL.out)]
            exact (rl.drewN _)
          · rw [half_keep (fun j => hiTo f j n) (fun j => hiTo f j (n + 1)) 1 (by omega) (V2.out.trans EG.out)]
            exact (rh.drewN _)
      · obtain ⟨hb, rx, rl, rh⟩ := hA
        have cx : wr.cell? ⟨wo.heap.size, 2, none⟩ = some (.int .i64 (f n 2)) := rx.cell 2
        have cl : wr.cell? ⟨w.heap.size, 2, none⟩ = some (.int .i64 (loTo f 2 n)) := rl.cell 2
        have ch : wr.cell? ⟨w.heap.size + 1, 2, none⟩ = some (.int .i64 (hiTo f 2 n)) := rh.cell 2
        have fl : wr.frozen? ⟨w.heap.size, 2, none⟩ = false := rl.frozen 2
        have fh : wr.frozen? ⟨w.heap.size + 1, 2, none⟩ = false := rh.frozen 2
        have hway := box_ways f n 2
        have HB := Lib.hid hb
        have HX := Lib.hid rx
        have HL := Lib.hid rl
        have HH := Lib.hid rh
        clear hb rx rl rh
        obtain ⟨x, hx⟩ : ∃ x, x = f n 2 := ⟨_, rfl⟩
        obtain ⟨l, hl2⟩ : ∃ l, l = loTo f 2 n := ⟨_, rfl⟩
        obtain ⟨g, hg⟩ : ∃ g, g = hiTo f 2 n := ⟨_, rfl⟩
        rw [← hx] at cx hway
        rw [← hl2] at cl hway
        rw [← hg] at ch hway
        have EX := Lib.hid hx
        have EL := Lib.hid hl2
        have EG := Lib.hid hg
        clear hx hl2 hg
        rcases hway with ⟨rfl, v1, v2⟩ | ⟨hn0, ⟨g1, v1⟩ | ⟨g1, v1⟩, ⟨g2, v2⟩ | ⟨g2, v2⟩⟩
        · have V1 := Lib.hid v1
          have V2 := Lib.hid v2
          clear v1 v2
          go_wp2
          go_quiet (fail)
          go_wp2
          go_quiet (fail)
          go_wp2
          refine ⟨.inr (.inr (.inr ⟨rfl, ?_⟩)), by simp [intOf]⟩
          have hb := HB.out
          have rx := HX.out
          have rl := HL.out
          have rh := HH.out
          refine ⟨by (repeat (first | with_reducible exact Below.refl _ _ | with_reducible assumption | with_reducible refine below_drewN ?_ _ | with_reducible refine Below.drew ?_ | with_reducible refine Below.alloc ?_ (by first | exact Nat.le_refl _ | (simp; done) | (simp; omega) | omega) _ | with_reducible refine Below.setCell ?_ (by first | exact Nat.le_refl _ | (simp; done) | (simp; omega) | omega) _ | with_reducible refine Below.trans ?_ (Below.mono (by with_reducible assumption) (by first | exact Nat.le_refl _ | (simp; done) | (simp; omega) | omega)))), ?_, ?_, ?_⟩
          · exact ((((rx.drewN _).far (by first | (simp; done) | (simp; omega) | omega) _).drewN _).far (by first | (simp; done) | (simp; omega) | omega) _)
          · rw [← half_set (fun j => loTo f j 0) (fun j => loTo f j (0 + 1)) 2 x (by omega) V1.out]
            exact ((((rl.drewN _).set 2 _).drewN _).far (by first | (simp; done) | (simp; omega) | omega) _)
          · rw [← half_set (fun j => hiTo f j 0) (fun j => hiTo f j (0 + 1)) 2 x (by omega) V2.out]
            exact ((((rh.drewN _).far (by first | (simp; done) | (simp; omega) | omega) _).drewN _).set 2 _)
        · have V1 := Lib.hid v1
          have V2 := Lib.hid v2
          clear v1 v2
          go_wp2
          go_quiet (fail)
          go_wp2
          go_quiet (fail)
          go_wp2
          refine ⟨.inr (.inr (.inr ⟨rfl, ?_⟩)), by simp [intOf]⟩
          have hb := HB.out
          have rx := HX.out
          have rl := HL.out
          have rh := HH.out
          refine ⟨by (repeat (first | with_reducible exact Below.refl _ _ | with_reducible assumption | with_reducible refine below_drewN ?_ _ | with_reducible refine Below.drew ?_ | with_reducible refine Below.alloc ?_ (by first | exact Nat.le_refl _ | (simp; done) | (simp; omega) | omega) _ | with_reducible refine Below.setCell ?_ (by first | exact Nat.le_refl _ | (simp; done) | (simp; omega) | omega) _ | with_reducible refine Below.trans ?_ (Below.mono (by with_reducible assumption) (by first | exact Nat.le_refl _ | (simp; done) | (simp; omega) | omega)))), ?_, ?_, ?_⟩
          · exact ((((rx.drewN _).far (by first | (simp; done) | (simp; omega) | omega) _).drewN _).far (by first | (simp; done) | (simp; omega) | omega) _)
          · rw [← half_set (fun j => loTo f j n) (fun j => loTo f j (n + 1)) 2 x (by omega) V1.out]
            exact ((((rl.drewN _).set 2 _).drewN _).far (by first | (simp; done) | (simp; omega) | omega) _)
          · rw [← half_set (fun j => hiTo f j n) (fun j => hiTo f j (n + 1)) 2 x (by omega) V2.out]
            exact ((((rh.drewN _).far (by first | (simp; done) | (simp; omega) | omega) _).drewN _).set 2 _)
        · have V1 := Lib.hid v1
          have V2 := Lib.hid v2
          clear v1 v2
          go_wp2
          go_quiet (fail)
          go_wp2
          go_quiet (fail)
          go_wp2
          refine ⟨.inr (.inr (.inr ⟨rfl, ?_⟩)), by simp [intOf]⟩
          have hb := HB.out
          have rx := HX.out
          have rl := HL.out
          have rh := HH.out
          refine ⟨by (repeat (first | with_reducible exact Below.refl _ _ | with_reducible assumption | with_reducible refine below_drewN ?_ _ | with_reducible refine Below.drew ?_ | with_reducible refine Below.alloc ?_ (by first | exact Nat.le_refl _ | (simp; done) | (simp; omega) | omega) _ | with_reducible refine Below.setCell ?_ (by first | exact Nat.le_refl _ | (simp; done) | (simp; omega) | omega) _ | with_reducible refine Below.trans ?_ (Below.mono (by with_reducible assumption) (by first | exact Nat.le_refl _ | (simp; done) | (simp; omega) | omega)))), ?_, ?_, ?_⟩
          · exact (((rx.drewN _).far (by first | (simp; done) | (simp; omega) | omega) _).drewN _)
          · rw [← half_set (fun j => loTo f j n) (fun j => loTo f j (n + 1)) 2 x (by omega) V1.out]
            exact (((rl.drewN _).set 2 _).drewN _)
          · rw [half_keep (fun j => hiTo f j n) (fun j => hiTo f j (n + 1)) 2 (by omega) (V2.out.trans EG.out)]
            exact (((rh.drewN _).far (by first | (simp; done) | (simp; omega) | omega) _).drewN _)
        · have V1 := Lib.hid v1
          have V2 := Lib.hid v2
          clear v1 v2
          go_wp2
          go_quiet (fail)
          go_wp2
          go_quiet (fail)
          go_wp2
          refine ⟨.inr (.inr (.inr ⟨rfl, ?_⟩)), by simp [intOf]⟩
          have hb := HB.out
          have rx := HX.out
          have rl := HL.out
          have rh := HH.out
          refine ⟨by (repeat (first | with_reducible exact Below.refl _ _ | with_reducible assumption | with_reducible refine below_drewN ?_ _ | with_reducible refine Below.drew ?_ | with_reducible refine Below.alloc ?_ (by first | exact Nat.le_refl _ | (simp; done) | (simp; omega) | omega) _ | with_reducible refine Below.setCell ?_ (by first | exact Nat.le_refl _ | (simp; done) | (simp; omega) | omega) _ | with_reducible refine Below.trans ?_ (Below.mono (by with_reducible assumption) (by first | exact Nat.le_refl _ | (simp; done) | (simp; omega) | omega)))), ?_, ?_, ?_⟩
          · exact ((rx.drewN _).far (by first | (simp; done) | (simp; omega) | omega) _)
          · rw [half_keep (fun j => loTo f j n) (fun j => loTo f j (n + 1)) 2 (by omega) (V1.out.trans EL.out)]
            exact ((rl.drewN _).far (by first | (simp; done) | (simp; omega) | omega) _)
          · rw [← half_set (fun j => hiTo f j n) (fun j => hiTo f j (n + 1)) 2 x (by omega) V2.out]
            exact ((rh.drewN _).set 2 _)
        · have V1 := Lib.hid v1
          have V2 := Lib.hid v2
          clear v1 v2
          go_wp2
          go_quiet (fail)
          go_wp2
          go_quiet (fail)
          go_wp2
          refine ⟨.inr (.inr (.inr ⟨rfl, ?_⟩)), by simp [intOf]⟩
          have hb := HB.out
          have rx := HX.out
          have rl := HL.out
          have rh := HH.out
          refine ⟨by (repeat (first | with_reducible exact Below.refl _ _ | with_reducible assumption | with_reducible refine below_drewN ?_ _ | with_reducible refine Below.drew ?_ | with_reducible refine Below.alloc ?_ (by first | exact Nat.le_refl _ | (simp; done) | (simp; omega) | omega) _ | with_reducible refine Below.setCell ?_ (by first | exact Nat.le_refl _ | (simp; done) | (simp; omega) | omega) _ | with_reducible refine Below.trans ?_ (Below.mono (by with_reducible assumption) (by first | exact Nat.le_refl _ | (simp; done) | (simp; omega) | omega)))), ?_, ?_, ?_⟩
          · exact (rx.drewN _)
          · rw [half_keep (fun j => loTo f j n) (fun j => loTo f j (n + 1)) 2 (by omega) (V1.out.trans EL.out)]
            exact (rl.drewN _)
          · rw [half_keep (fun j => hiTo f j n) (fun j => hiTo f j (n + 1)) 2 (by omega) (V2.out.trans EG.out)]
            exact (rh.drewN _)
      · have HA := Lib.hid hA
        clear hA
        go_wp2
        refine ⟨⟨n + 1, by omega, by go_num, HA.out.bel, HA.out.lo, HA.out.hi⟩, by simp [intOf]; omega⟩
    · obtain rfl : n = len := by omega
      obtain ⟨hb, rl, rh⟩ := hA
      have cl0 : wr.cell? ⟨w.heap.size, 0, none⟩ = some (.int .i64 (loTo f 0 n)) := rl.cell 0
      have fl0 : wr.frozen? ⟨w.heap.size, 0, none⟩ = false := rl.frozen 0
      have ch0 : wr.cell? ⟨w.heap.size + 1, 0, none⟩ = some (.int .i64 (hiTo f 0 n)) := rh.cell 0
      have fh0 : wr.frozen? ⟨w.heap.size + 1, 0, none⟩ = false := rh.frozen 0
      have cl1 : wr.cell? ⟨w.heap.size, 1, none⟩ = some (.int .i64 (loTo f 1 n)) := rl.cell 1
      have fl1 : wr.frozen? ⟨w.heap.size, 1, none⟩ = false := rl.frozen 1
      have ch1 : wr.cell? ⟨w.heap.size + 1, 1, none⟩ = some (.int .i64 (hiTo f 1 n)) := rh.cell 1
      have fh1 : wr.frozen? ⟨w.heap.size + 1, 1, none⟩ = false := rh.frozen 1
      have cl2 : wr.cell? ⟨w.heap.size, 2, none⟩ = some (.int .i64 (loTo f 2 n)) := rl.cell 2
      have fl2 : wr.frozen? ⟨w.heap.size, 2, none⟩ = false := rl.frozen 2
      have ch2 : wr.cell? ⟨w.heap.size + 1, 2, none⟩ = some (.int .i64 (hiTo f 2 n)) := rh.cell 2
      have fh2 : wr.frozen? ⟨w.heap.size + 1, 2, none⟩ = false := rh.frozen 2
      have HB := Lib.hid hb
      clear hb rl rh
      go_wp2
      go_region
      go_wp2
      refine bodyPost_ret (v := .tuple #[.agg #[.int .i64 (loTo f 0 n), .int .i64 (loTo f 1 n), .int .i64 (loTo f 2 n)], .agg #[.int .i64 (hiTo f 0 n), .int .i64 (hiTo f 1 n), .int .i64 (hiTo f 2 n)]]) (by unfold results; simp only [Try.results20]; go_simp) rfl ⟨rfl, ?_⟩
      have hb := HB.out
      (repeat (first | with_reducible exact Below.refl _ _ | with_reducible assumption | with_reducible refine below_drewN ?_ _ | with_reducible refine Below.drew ?_ | with_reducible refine Below.alloc ?_ (by first | exact Nat.le_refl _ | (simp; done) | (simp; omega) | omega) _ | with_reducible refine Below.setCell ?_ (by first | exact Nat.le_refl _ | (simp; done) | (simp; omega) | omega) _ | with_reducible refine Below.trans ?_ (Below.mono (by with_reducible assumption) (by first | exact Nat.le_refl _ | (simp; done) | (simp; omega) | omega))))
end Go.Proofs.Ytppkbnajpeoaaaa
