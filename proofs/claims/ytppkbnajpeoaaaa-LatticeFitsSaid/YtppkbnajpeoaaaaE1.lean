/- Fit: plain facts and its walk. -/
import Derived.Test.YtppkbnajpeoaaaaD2
import Derived.Test.YtppkbnajpeoaaaaC2
namespace Go.Proofs.Ytppkbnajpeoaaaa
open Go.RowKit

/-- the least of the first coordinates, the first one at least -/
def mnTo (f : Nat → Nat → Int) (k : Nat) : Nat → Int
  | 0 => f 0 k
  | n + 1 => if f n k < mnTo f k n then f n k else mnTo f k n
theorem mn_le (f : Nat → Nat → Int) (k : Nat) : ∀ n i, i < n → mnTo f k n ≤ f i k := by
  intro n
  induction n with
  | zero => intro i h; omega
  | succ n ih =>
    intro i h
    unfold mnTo
    by_cases hi : i = n
    · subst hi
      split <;> omega
    · have := ih i (by omega)
      split
      · omega
      · exact this
theorem mn_is (f : Nat → Nat → Int) (k : Nat) : ∀ n, 0 < n → ∃ i, i < n ∧ mnTo f k n = f i k := by
  intro n
  induction n with
  | zero => intro h; omega
  | succ n ih =>
    intro _
    unfold mnTo
    by_cases h : f n k < mnTo f k n
    · exact ⟨n, by omega, by rw [if_pos h]⟩
    · rw [if_neg h]
      by_cases h0 : n = 0
      · subst h0
        exact ⟨0, by omega, rfl⟩
      · obtain ⟨i, hi, e⟩ := ih (by omega)
        exact ⟨i, by omega, e⟩
def snOk (f : Nat → Nat → Int) (s a b c : Int) (i : Nat) : Bool := snapOk s a b c (f i 0) (f i 1) (f i 2)
def allOk (f : Nat → Nat → Int) (s a b c : Int) : Nat → Bool
  | 0 => true
  | n + 1 => allOk f s a b c n && snOk f s a b c n
theorem allOk_at (f : Nat → Nat → Int) (s a b c : Int) : ∀ n, allOk f s a b c n = true → ∀ i, i < n → snOk f s a b c i = true := by
  intro n
  induction n with
  | zero => intro _ i h; omega
  | succ n ih =>
    intro h i hi
    simp only [allOk, Bool.and_eq_true] at h
    by_cases e : i = n
    · subst e; exact h.2
    · exact ih h.1 i (by omega)
theorem allOk_not (f : Nat → Nat → Int) (s a b c : Int) : ∀ n i, i < n → snOk f s a b c i = false → allOk f s a b c n = false := by
  intro n
  induction n with
  | zero => intro i h; omega
  | succ n ih =>
    intro i hi h
    simp only [allOk]
    by_cases e : i = n
    · subst e; rw [h, Bool.and_false]
    · rw [ih i (by omega) h, Bool.false_and]
def i4 (x y z t : Int) : List Value := [.int .i64 x, .int .i64 y, .int .i64 z, .int .i64 t]
def half4 (s : Int) (g h : Nat → Int) (k : Nat) : List Value := i4 s (if 0 < k then h 0 else g 0) (if 1 < k then h 1 else g 1) (if 2 < k then h 2 else g 2)
theorem half4_keep (s : Int) (g h : Nat → Int) (k : Nat) (hk : k < 3) (e : h k = g k) : half4 s g h (k + 1) = half4 s g h k := by
  rcases (show k = 0 ∨ k = 1 ∨ k = 2 by omega) with rfl | rfl | rfl <;> simp [half4, e]
theorem half4_set (s : Int) (g h : Nat → Int) (k : Nat) (x : Int) (hk : k < 3) (e : h k = x) : (half4 s g h k).set (1 + k) (.int .i64 x) = half4 s g h (k + 1) := by
  rcases (show k = 0 ∨ k = 1 ∨ k = 2 by omega) with rfl | rfl | rfl <;> simp [half4, i4, e]
theorem mn_ways (f : Nat → Nat → Int) (n k : Nat) : (f n k < mnTo f k n ∧ mnTo f k (n + 1) = f n k) ∨ (mnTo f k n ≤ f n k ∧ mnTo f k (n + 1) = mnTo f k n) := by
  by_cases h : f n k < mnTo f k n
  · exact .inl ⟨h, by rw [mnTo, if_pos h]⟩
  · exact .inr ⟨by omega, by rw [mnTo, if_neg h]⟩
structure FitAt (f : Nat → Nat → Int) (s : Int) (w : World) (n : Nat) (wr : World) : Prop where
  bel : Below w.heap.size w wr
  res : Rw wr w.heap.size (i4 0 0 0 0)
  out : Rw wr (w.heap.size + 1) (i4 s (mnTo f 0 n) (mnTo f 1 n) (mnTo f 2 n))
structure FitIn (f : Nat → Nat → Int) (s : Int) (w : World) (n k : Nat) (wr : World) : Prop where
  bel : Below w.heap.size w wr
  res : Rw wr w.heap.size (i4 0 0 0 0)
  out : Rw wr (w.heap.size + 1) (half4 s (fun j => mnTo f j n) (fun j => mnTo f j (n + 1)) k)
def FitRel (f : Nat → Nat → Int) (s : Int) (w : World) (len : Nat) (i : Value) (wr : World) : Prop := ∃ n : Nat, n ≤ len ∧ i = .int .i64 n ∧ FitAt f s w n wr
def FitInRel (f : Nat → Nat → Int) (s : Int) (w : World) (n : Nat) (i : Value) (wr : World) : Prop :=
  (i = .int .i64 0 ∧ FitIn f s w n 0 wr) ∨ (i = .int .i64 1 ∧ FitIn f s w n 1 wr) ∨ (i = .int .i64 2 ∧ FitIn f s w n 2 wr) ∨ (i = .int .i64 3 ∧ FitIn f s w n 3 wr)
def FitChk (f : Nat → Nat → Int) (s a b c : Int) (w : World) (len : Nat) (i : Value) (wr : World) : Prop :=
  ∃ n : Nat, n ≤ len ∧ i = .int .i64 n ∧ Below w.heap.size w wr ∧ Rw wr w.heap.size (i4 0 0 0 0) ∧ Rw wr (w.heap.size + 1) (i4 s a b c) ∧ allOk f s a b c n = true
/-- what Fit answers -/
def fitV (f : Nat → Nat → Int) (s : Int) (len : Nat) : Value :=
  if rightB s (mnTo f 0 len) (mnTo f 1 len) (mnTo f 2 len) && allOk f s (mnTo f 0 len) (mnTo f 1 len) (mnTo f 2 len) len then
    .tuple #[.agg #[.int .i64 s, .int .i64 (mnTo f 0 len), .int .i64 (mnTo f 1 len), .int .i64 (mnTo f 2 len)], .int .i64 0]
  else .tuple #[.agg #[.int .i64 0, .int .i64 0, .int .i64 0, .int .i64 0], .int .i64 2]

set_option maxHeartbeats 1000000 in
theorem fit_bad (s : Int) (A : Option Addr) (len cap : Nat) (w : World) (h : (s < 1) ∨ (1 ≤ s ∧ 1048576 < s) ∨ ((1 ≤ s ∧ s ≤ 1048576) ∧ len = 0)) :
    Calls Try.prog 21 #[.int .i64 s, .slice A len cap] w fun e w' => e = .returned (.tuple #[.agg #[.int .i64 0, .int .i64 0, .int .i64 0, .int .i64 0], .int .i64 1]) ∧ Below w.heap.size w w' := by
  rcases h with h | h | ⟨h, rfl⟩
  all_goals
    go_enter Try.func21, Try.ntmps21
    go_wp2
    exact bodyPost_ret (v := .tuple #[.agg #[.int .i64 0, .int .i64 0, .int .i64 0, .int .i64 0], .int .i64 1]) (by unfold results; simp only [Try.results21]; go_simp) rfl ⟨rfl, by (repeat (first | with_reducible exact Below.refl _ _ | with_reducible assumption | with_reducible refine below_drewN ?_ _ | with_reducible refine Below.drew ?_ | with_reducible refine Below.alloc ?_ (by first | exact Nat.le_refl _ | (simp; done) | (simp; omega) | omega) _ | with_reducible refine Below.setCell ?_ (by first | exact Nat.le_refl _ | (simp; done) | (simp; omega) | omega) _ | with_reducible refine Below.trans ?_ (Below.mono (by with_reducible assumption) (by first | exact Nat.le_refl _ | (simp; done) | (simp; omega) | omega))))⟩

set_option maxHeartbeats 4000000 in
theorem fit_some (s : Int) (b off len cap : Nat) (f : Nat → Nat → Int) (w : World) (hs : 1 ≤ s) (hs2 : s ≤ 1048576) (hl : len ≤ 40) (hcap : len ≤ cap) (hpos : 0 < len)
   (hc : ∀ i k, i < len → k < 3 → w.cell? ⟨b, off + i * 3 + k, none⟩ = some (.int .i64 (f i k))) :
    Calls Try.prog 21 #[.int .i64 s, .slice (some ⟨b, off, none⟩) len cap] w fun e w' => e = .returned (fitV f s len) ∧ Below w.heap.size w w' := by
  have HC := Lib.hid hc
  have z0 : w.cell? ⟨b, off, none⟩ = some (.int .i64 (f 0 0)) := by simpa using hc 0 0 hpos (by omega)
  have z1 : w.cell? ⟨b, off + 1, none⟩ = some (.int .i64 (f 0 1)) := by simpa using hc 0 1 hpos (by omega)
  have z2 : w.cell? ⟨b, off + 2, none⟩ = some (.int .i64 (f 0 2)) := by simpa using hc 0 2 hpos (by omega)
  have zb := World.block_lt_of_cell? _ _ z0
  clear hc
  have hp0 : ((len : Int) == 0) = false := by simp; omega
  have hp1 : (0 : Int) < (len : Int) := by omega
  go_enter Try.func21, Try.ntmps21
  go_wp2
  clear z0 z1 z2
  go_loopw [34] (fun i wr => FitRel f s w len i wr) (fun i _ => len - (intOf i).toNat)
  case atStart =>
    refine ⟨0, by omega, rfl, by (repeat (first | with_reducible exact Below.refl _ _ | with_reducible assumption | with_reducible refine below_drewN ?_ _ | with_reducible refine Below.drew ?_ | with_reducible refine Below.alloc ?_ (by first | exact Nat.le_refl _ | (simp; done) | (simp; omega) | omega) _ | with_reducible refine Below.setCell ?_ (by first | exact Nat.le_refl _ | (simp; done) | (simp; omega) | omega) _ | with_reducible refine Below.trans ?_ (Below.mono (by with_reducible assumption) (by first | exact Nat.le_refl _ | (simp; done) | (simp; omega) | omega)))), ?_, ?_⟩
    · exact (Rw.new' (i4 0 0 0 0) rfl).alloc _
    · exact Rw.new' (i4 s (f 0 0) (f 0 1) (f 0 2)) (by first | (simp; done) | (simp; omega) | omega)
  case round =>
    obtain ⟨n, hn, rfl, hA⟩ := hrel
    by_cases hlt : n < len
    · obtain ⟨wo, rfl⟩ : ∃ wo : World, wo = wr := ⟨_, rfl⟩
      obtain ⟨hb, rr, ro⟩ := hA
      have e0 := HC.out n 0 hlt (by omega)
      have e1 := HC.out n 1 hlt (by omega)
      have e2 := HC.out n 2 hlt (by omega)
      have k0 : wo.cell? ⟨b, off + n * 3, none⟩ = some (.int .i64 (f n 0)) := (hb.cell (World.block_lt_of_cell? _ _ e0)).trans e0
      have k1 : wo.cell? ⟨b, off + n * 3 + 1, none⟩ = some (.int .i64 (f n 1)) := (hb.cell (World.block_lt_of_cell? _ _ e1)).trans e1
      have k2 : wo.cell? ⟨b, off + n * 3 + 2, none⟩ = some (.int .i64 (f n 2)) := (hb.cell (World.block_lt_of_cell? _ _ e2)).trans e2
      clear e0 e1 e2
      have sl := rr.lt
      have sh := ro.lt
      have HB := Lib.hid hb
      have HR := Lib.hid rr
      have HO := Lib.hid ro
      clear hb rr ro
      go_wp2
      go_loopw [39] (fun i wr => FitInRel f s w n i wr) (fun i _ => 3 - (intOf i).toNat)
      case atStart =>
        have hb := HB.out
        refine .inl ⟨rfl, by (repeat (first | with_reducible exact Below.refl _ _ | with_reducible assumption | with_reducible refine below_drewN ?_ _ | with_reducible refine Below.drew ?_ | with_reducible refine Below.alloc ?_ (by first | exact Nat.le_refl _ | (simp; done) | (simp; omega) | omega) _ | with_reducible refine Below.setCell ?_ (by first | exact Nat.le_refl _ | (simp; done) | (simp; omega) | omega) _ | with_reducible refine Below.trans ?_ (Below.mono (by with_reducible assumption) (by first | exact Nat.le_refl _ | (simp; done) | (simp; omega) | omega)))), HR.out.alloc _, HO.out.alloc _⟩
      case round =>
      clear k0 k1 k2
      rcases hrel with ⟨rfl, hA⟩ | ⟨rfl, hA⟩ | ⟨rfl, hA⟩ | ⟨rfl, hA⟩
      · obtain ⟨hb, rr, ro⟩ := hA
        have co : wr.cell? ⟨w.heap.size + 1, 1, none⟩ = some (.int .i64 (mnTo f 0 n)) := ro.cell 1
        have fo : wr.frozen? ⟨w.heap.size + 1, 1, none⟩ = false := ro.frozen 1
        have hway := mn_ways f n 0
        have ix : ∀ W, (Instr.index 22 (.agg #[.int .i64 (f n 0), .int .i64 (f n 1), .int .i64 (f n 2)]) (.int .i64 0)).run Try.prog W = .ok (.int .i64 (f n 0)) W := fun _ => by kernel_rfl
        have HB := Lib.hid hb
        have HR := Lib.hid rr
        have HO := Lib.hid ro
        clear hb rr ro
        obtain ⟨l, hl2⟩ : ∃ l, l = mnTo f 0 n := ⟨_, rfl⟩
        rw [← hl2] at co hway
        have EL := Lib.hid hl2
        clear hl2
        rcases hway with ⟨g1, v1⟩ | ⟨g1, v1⟩
        · have V1 := Lib.hid v1
          clear v1
          go_wp2
          refine ⟨.inr (.inl ⟨rfl, ?_⟩), by simp [intOf]⟩
          have hb := HB.out
          refine ⟨by (repeat (first | with_reducible exact Below.refl _ _ | with_reducible assumption | with_reducible refine below_drewN ?_ _ | with_reducible refine Below.drew ?_ | with_reducible refine Below.alloc ?_ (by first | exact Nat.le_refl _ | (simp; done) | (simp; omega) | omega) _ | with_reducible refine Below.setCell ?_ (by first | exact Nat.le_refl _ | (simp; done) | (simp; omega) | omega) _ | with_reducible refine Below.trans ?_ (Below.mono (by with_reducible assumption) (by first | exact Nat.le_refl _ | (simp; done) | (simp; omega) | omega)))), HR.out.far (by first | (simp; done) | (simp; omega) | omega) _, ?_⟩
          rw [← half4_set s (fun j => mnTo f j n) (fun j => mnTo f j (n + 1)) 0 _ (by omega) V1.out]
          exact HO.out.set 1 _
        · have V1 := Lib.hid v1
          clear v1
          go_wp2
          refine ⟨.inr (.inl ⟨rfl, ?_⟩), by simp [intOf]⟩
          have hb := HB.out
          refine ⟨by (repeat (first | with_reducible exact Below.refl _ _ | with_reducible assumption | with_reducible refine below_drewN ?_ _ | with_reducible refine Below.drew ?_ | with_reducible refine Below.alloc ?_ (by first | exact Nat.le_refl _ | (simp; done) | (simp; omega) | omega) _ | with_reducible refine Below.setCell ?_ (by first | exact Nat.le_refl _ | (simp; done) | (simp; omega) | omega) _ | with_reducible refine Below.trans ?_ (Below.mono (by with_reducible assumption) (by first | exact Nat.le_refl _ | (simp; done) | (simp; omega) | omega)))), HR.out.far (by first | (simp; done) | (simp; omega) | omega) _, ?_⟩
          rw [← half4_set s (fun j => mnTo f j n) (fun j => mnTo f j (n + 1)) 0 l (by omega) (V1.out)]
          exact HO.out.set 1 _
      · obtain ⟨hb, rr, ro⟩ := hA
        have co : wr.cell? ⟨w.heap.size + 1, 2, none⟩ = some (.int .i64 (mnTo f 1 n)) := ro.cell 2
        have fo : wr.frozen? ⟨w.heap.size + 1, 2, none⟩ = false := ro.frozen 2
        have hway := mn_ways f n 1
        have ix : ∀ W, (Instr.index 22 (.agg #[.int .i64 (f n 0), .int .i64 (f n 1), .int .i64 (f n 2)]) (.int .i64 1)).run Try.prog W = .ok (.int .i64 (f n 1)) W := fun _ => by kernel_rfl
        have HB := Lib.hid hb
        have HR := Lib.hid rr
        have HO := Lib.hid ro
        clear hb rr ro
        obtain ⟨l, hl2⟩ : ∃ l, l = mnTo f 1 n := ⟨_, rfl⟩
        rw [← hl2] at co hway
        have EL := Lib.hid hl2
        clear hl2
        rcases hway with ⟨g1, v1⟩ | ⟨g1, v1⟩
        · have V1 := Lib.hid v1
          clear v1
          go_wp2
          refine ⟨.inr (.inr (.inl ⟨rfl, ?_⟩)), by simp [intOf]⟩
          have hb := HB.out
          refine ⟨by (repeat (first | with_reducible exact Below.refl _ _ | with_reducible assumption | with_reducible refine below_drewN ?_ _ | with_reducible refine Below.drew ?_ | with_reducible refine Below.alloc ?_ (by first | exact Nat.le_refl _ | (simp; done) | (simp; omega) | omega) _ | with_reducible refine Below.setCell ?_ (by first | exact Nat.le_refl _ | (simp; done) | (simp; omega) | omega) _ | with_reducible refine Below.trans ?_ (Below.mono (by with_reducible assumption) (by first | exact Nat.le_refl _ | (simp; done) | (simp; omega) | omega)))), HR.out.far (by first | (simp; done) | (simp; omega) | omega) _, ?_⟩
          rw [← half4_set s (fun j => mnTo f j n) (fun j => mnTo f j (n + 1)) 1 _ (by omega) V1.out]
          exact HO.out.set 2 _
        · have V1 := Lib.hid v1
          clear v1
          go_wp2
          refine ⟨.inr (.inr (.inl ⟨rfl, ?_⟩)), by simp [intOf]⟩
          have hb := HB.out
          refine ⟨by (repeat (first | with_reducible exact Below.refl _ _ | with_reducible assumption | with_reducible refine below_drewN ?_ _ | with_reducible refine Below.drew ?_ | with_reducible refine Below.alloc ?_ (by first | exact Nat.le_refl _ | (simp; done) | (simp; omega) | omega) _ | with_reducible refine Below.setCell ?_ (by first | exact Nat.le_refl _ | (simp; done) | (simp; omega) | omega) _ | with_reducible refine Below.trans ?_ (Below.mono (by with_reducible assumption) (by first | exact Nat.le_refl _ | (simp; done) | (simp; omega) | omega)))), HR.out.far (by first | (simp; done) | (simp; omega) | omega) _, ?_⟩
          rw [← half4_set s (fun j => mnTo f j n) (fun j => mnTo f j (n + 1)) 1 l (by omega) (V1.out)]
          exact HO.out.set 2 _
      · obtain ⟨hb, rr, ro⟩ := hA
        have co : wr.cell? ⟨w.heap.size + 1, 3, none⟩ = some (.int .i64 (mnTo f 2 n)) := ro.cell 3
        have fo : wr.frozen? ⟨w.heap.size + 1, 3, none⟩ = false := ro.frozen 3
        have hway := mn_ways f n 2
        have ix : ∀ W, (Instr.index 22 (.agg #[.int .i64 (f n 0), .int .i64 (f n 1), .int .i64 (f n 2)]) (.int .i64 2)).run Try.prog W = .ok (.int .i64 (f n 2)) W := fun _ => by kernel_rfl
        have HB := Lib.hid hb
        have HR := Lib.hid rr
        have HO := Lib.hid ro
        clear hb rr ro
        obtain ⟨l, hl2⟩ : ∃ l, l = mnTo f 2 n := ⟨_, rfl⟩
        rw [← hl2] at co hway
        have EL := Lib.hid hl2
        clear hl2
        rcases hway with ⟨g1, v1⟩ | ⟨g1, v1⟩
        · have V1 := Lib.hid v1
          clear v1
          go_wp2
          refine ⟨.inr (.inr (.inr ⟨rfl, ?_⟩)), by simp [intOf]⟩
          have hb := HB.out
          refine ⟨by (repeat (first | with_reducible exact Below.refl _ _ | with_reducible assumption | with_reducible refine below_drewN ?_ _ | with_reducible refine Below.drew ?_ | with_reducible refine Below.alloc ?_ (by first | exact Nat.le_refl _ | (simp; done) | (simp; omega) | omega) _ | with_reducible refine Below.setCell ?_ (by first | exact Nat.le_refl _ | (simp; done) | (simp; omega) | omega) _ | with_reducible refine Below.trans ?_ (Below.mono (by with_reducible assumption) (by first | exact Nat.le_refl _ | (simp; done) | (simp; omega) | omega)))), HR.out.far (by first | (simp; done) | (simp; omega) | omega) _, ?_⟩
          rw [← half4_set s (fun j => mnTo f j n) (fun j => mnTo f j (n + 1)) 2 _ (by omega) V1.out]
          exact HO.out.set 3 _
        · have V1 := Lib.hid v1
          clear v1
          go_wp2
          refine ⟨.inr (.inr (.inr ⟨rfl, ?_⟩)), by simp [intOf]⟩
          have hb := HB.out
          refine ⟨by (repeat (first | with_reducible exact Below.refl _ _ | with_reducible assumption | with_reducible refine below_drewN ?_ _ | with_reducible refine Below.drew ?_ | with_reducible refine Below.alloc ?_ (by first | exact Nat.le_refl _ | (simp; done) | (simp; omega) | omega) _ | with_reducible refine Below.setCell ?_ (by first | exact Nat.le_refl _ | (simp; done) | (simp; omega) | omega) _ | with_reducible refine Below.trans ?_ (Below.mono (by with_reducible assumption) (by first | exact Nat.le_refl _ | (simp; done) | (simp; omega) | omega)))), HR.out.far (by first | (simp; done) | (simp; omega) | omega) _, ?_⟩
          rw [← half4_set s (fun j => mnTo f j n) (fun j => mnTo f j (n + 1)) 2 l (by omega) (V1.out)]
          exact HO.out.set 3 _
      · have HA := Lib.hid hA
        clear hA
        go_wp2
        refine ⟨⟨n + 1, by omega, by go_num, HA.out.bel, HA.out.res, HA.out.out⟩, by simp [intOf]; omega⟩
    · obtain rfl : n = len := by omega
      obtain ⟨wo, rfl⟩ : ∃ wo : World, wo = wr := ⟨_, rfl⟩
      obtain ⟨hb, rr, ro⟩ := hA
      have z0 : wo.cell? ⟨w.heap.size, 0, none⟩ = some (.int .i64 0) := rr.cell 0
      have z1 : wo.cell? ⟨w.heap.size, 1, none⟩ = some (.int .i64 0) := rr.cell 1
      have z2 : wo.cell? ⟨w.heap.size, 2, none⟩ = some (.int .i64 0) := rr.cell 2
      have z3 : wo.cell? ⟨w.heap.size, 3, none⟩ = some (.int .i64 0) := rr.cell 3
      have fz0 : wo.frozen? ⟨w.heap.size, 0, none⟩ = false := rr.frozen 0
      have fz1 : wo.frozen? ⟨w.heap.size, 1, none⟩ = false := rr.frozen 1
      have fz2 : wo.frozen? ⟨w.heap.size, 2, none⟩ = false := rr.frozen 2
      have fz3 : wo.frozen? ⟨w.heap.size, 3, none⟩ = false := rr.frozen 3
      have o0 : wo.cell? ⟨w.heap.size + 1, 0, none⟩ = some (.int .i64 s) := ro.cell 0
      have o1 : wo.cell? ⟨w.heap.size + 1, 1, none⟩ = some (.int .i64 (mnTo f 0 n)) := ro.cell 1
      have o2 : wo.cell? ⟨w.heap.size + 1, 2, none⟩ = some (.int .i64 (mnTo f 1 n)) := ro.cell 2
      have o3 : wo.cell? ⟨w.heap.size + 1, 3, none⟩ = some (.int .i64 (mnTo f 2 n)) := ro.cell 3
      have sh := ro.lt
      have sl := rr.lt
      have HB := Lib.hid hb
      have HR := Lib.hid rr
      have HO := Lib.hid ro
      clear hb rr ro
      by_cases hr : rightB s (mnTo f 0 n) (mnTo f 1 n) (mnTo f 2 n) = true
      · have RL : ∀ W, Calls Try.prog 14 #[.agg #[.int .i64 s, .int .i64 (mnTo f 0 n), .int .i64 (mnTo f 1 n), .int .i64 (mnTo f 2 n)]] W fun e w' => e = .returned (.bool true) ∧ Below W.heap.size W w' := fun W => by have := right_any s (mnTo f 0 n) (mnTo f 1 n) (mnTo f 2 n) W; rw [hr] at this; exact this
        have RL := Lib.hid RL
        have HRT := Lib.hid hr
        clear hr
        go_wp2_with fail
        refine (RL.out _).mono ?_
        rintro e w2 ⟨rfl, hb2⟩
        have sl2 : w.heap.size < w2.heap.size := by have := hb2.size; omega
        have sh2 : w.heap.size + 1 < w2.heap.size := by have := hb2.size; omega
        have HB2 := Lib.hid (below_then HB.out hb2)
        have HR2 := Lib.hid (HR.out.below hb2 sl)
        have HO2 := Lib.hid (HO.out.below hb2 sh)
        clear hb2 HB HR HO z0 z1 z2 z3 fz0 fz1 fz2 fz3 o0 o1 o2 o3
        go_wp2
        go_loopw [60] (fun i wr => FitChk f s (mnTo f 0 n) (mnTo f 1 n) (mnTo f 2 n) w n i wr) (fun i _ => n - (intOf i).toNat)
        case atStart => exact ⟨0, by omega, rfl, HB2.out, HR2.out, HO2.out, rfl⟩
        case round =>
        clear HB2 HR2 HO2 sl2 sh2
        obtain ⟨m, hm, rfl, hb, rr, ro, hall⟩ := hrel
        obtain ⟨wo, rfl⟩ : ∃ wo : World, wo = wr := ⟨_, rfl⟩
        have z0 : wo.cell? ⟨w.heap.size, 0, none⟩ = some (.int .i64 0) := rr.cell 0
        have z1 : wo.cell? ⟨w.heap.size, 1, none⟩ = some (.int .i64 0) := rr.cell 1
        have z2 : wo.cell? ⟨w.heap.size, 2, none⟩ = some (.int .i64 0) := rr.cell 2
        have z3 : wo.cell? ⟨w.heap.size, 3, none⟩ = some (.int .i64 0) := rr.cell 3
        have fz0 : wo.frozen? ⟨w.heap.size, 0, none⟩ = false := rr.frozen 0
        have fz1 : wo.frozen? ⟨w.heap.size, 1, none⟩ = false := rr.frozen 1
        have fz2 : wo.frozen? ⟨w.heap.size, 2, none⟩ = false := rr.frozen 2
        have fz3 : wo.frozen? ⟨w.heap.size, 3, none⟩ = false := rr.frozen 3
        have o0 : wo.cell? ⟨w.heap.size + 1, 0, none⟩ = some (.int .i64 s) := ro.cell 0
        have o1 : wo.cell? ⟨w.heap.size + 1, 1, none⟩ = some (.int .i64 (mnTo f 0 n)) := ro.cell 1
        have o2 : wo.cell? ⟨w.heap.size + 1, 2, none⟩ = some (.int .i64 (mnTo f 1 n)) := ro.cell 2
        have o3 : wo.cell? ⟨w.heap.size + 1, 3, none⟩ = some (.int .i64 (mnTo f 2 n)) := ro.cell 3
        have sh := ro.lt
        have sl := rr.lt
        by_cases hlt : m < n
        · have e0 := HC.out m 0 hlt (by omega)
          have e1 := HC.out m 1 hlt (by omega)
          have e2 := HC.out m 2 hlt (by omega)
          have k0 : wo.cell? ⟨b, off + m * 3, none⟩ = some (.int .i64 (f m 0)) := (hb.cell (World.block_lt_of_cell? _ _ e0)).trans e0
          have k1 : wo.cell? ⟨b, off + m * 3 + 1, none⟩ = some (.int .i64 (f m 1)) := (hb.cell (World.block_lt_of_cell? _ _ e1)).trans e1
          have k2 : wo.cell? ⟨b, off + m * 3 + 2, none⟩ = some (.int .i64 (f m 2)) := (hb.cell (World.block_lt_of_cell? _ _ e2)).trans e2
          have bl : b < wo.heap.size := World.block_lt_of_cell? _ _ k0
          clear e0 e1 e2
          have HB := Lib.hid hb
          have HR := Lib.hid rr
          have HO := Lib.hid ro
          have HA := Lib.hid hall
          clear hb rr ro hall
          by_cases ho : snOk f s (mnTo f 0 n) (mnTo f 1 n) (mnTo f 2 n) m = true
          · have SY := fun W => snap_yes s (mnTo f 0 n) (mnTo f 1 n) (mnTo f 2 n) (f m 0) (f m 1) (f m 2) W HRT.out ho
            unfold lat pt at SY
            have SY := Lib.hid SY
            have HS := Lib.hid ho
            clear ho
            go_wp2_with fail
            refine (SY.out _).mono ?_
            rintro e w3 ⟨rfl, hb3⟩
            have hb3 : Below wo.heap.size wo w3 := by (repeat (first | with_reducible exact Below.refl _ _ | with_reducible assumption | with_reducible refine below_drewN ?_ _ | with_reducible refine Below.drew ?_ | with_reducible refine Below.alloc ?_ (by first | exact Nat.le_refl _ | (simp; done) | (simp; omega) | omega) _ | with_reducible refine Below.setCell ?_ (by first | exact Nat.le_refl _ | (simp; done) | (simp; omega) | omega) _ | with_reducible refine Below.trans ?_ (Below.mono (by with_reducible assumption) (by first | exact Nat.le_refl _ | (simp; done) | (simp; omega) | omega))))
            have HB3 := Lib.hid (below_then HB.out hb3)
            have HR3 := Lib.hid (HR.out.below hb3 sl)
            have HO3 := Lib.hid (HO.out.below hb3 sh)
            have sl3 : w.heap.size < w3.heap.size := by have := hb3.size; omega
            clear hb3
            go_wp2
            refine ⟨⟨m + 1, by omega, by go_num, HB3.out.alloc (Nat.le_of_lt sl3) _, HR3.out.alloc _, HO3.out.alloc _, ?_⟩, by simp [intOf]; omega⟩
            show (allOk f s _ _ _ m && snOk f s _ _ _ m) = true
            rw [HA.out, HS.out]
            rfl
          · have ho : snOk f s (mnTo f 0 n) (mnTo f 1 n) (mnTo f 2 n) m = false := by simpa using ho
            have SN := fun W => snap_out s (mnTo f 0 n) (mnTo f 1 n) (mnTo f 2 n) (f m 0) (f m 1) (f m 2) W HRT.out ho
            unfold lat pt at SN
            have SN := Lib.hid SN
            have HE : Hid (fitV f s n = .tuple #[.agg #[.int .i64 0, .int .i64 0, .int .i64 0, .int .i64 0], .int .i64 2]) := by
              show fitV f s n = _
              unfold fitV
              rw [allOk_not f s _ _ _ n m hlt ho, Bool.and_false, if_neg (by simp)]
            clear ho
            go_wp2_with fail
            refine (SN.out _).mono ?_
            rintro e w3 ⟨rfl, hb3⟩
            have hb3 : Below wo.heap.size wo w3 := by (repeat (first | with_reducible exact Below.refl _ _ | with_reducible assumption | with_reducible refine below_drewN ?_ _ | with_reducible refine Below.drew ?_ | with_reducible refine Below.alloc ?_ (by first | exact Nat.le_refl _ | (simp; done) | (simp; omega) | omega) _ | with_reducible refine Below.setCell ?_ (by first | exact Nat.le_refl _ | (simp; done) | (simp; omega) | omega) _ | with_reducible refine Below.trans ?_ (Below.mono (by with_reducible assumption) (by first | exact Nat.le_refl _ | (simp; done) | (simp; omega) | omega))))
            obtain ⟨hc3, hz3⟩ := bcell hb3
            have HB3 := Lib.hid (below_then HB.out hb3)
            have sl3 : w.heap.size < w3.heap.size := by have := hb3.size; omega
            clear hb3
            go_wp2
            exact bodyPost_ret (v := .tuple #[.agg #[.int .i64 0, .int .i64 0, .int .i64 0, .int .i64 0], .int .i64 2]) (by unfold results; simp only [Try.results21]; go_simp) rfl ⟨by rw [HE.out], by have hb := HB3.out; (repeat (first | with_reducible exact Below.refl _ _ | with_reducible assumption | with_reducible refine below_drewN ?_ _ | with_reducible refine Below.drew ?_ | with_reducible refine Below.alloc ?_ (by first | exact Nat.le_refl _ | (simp; done) | (simp; omega) | omega) _ | with_reducible refine Below.setCell ?_ (by first | exact Nat.le_refl _ | (simp; done) | (simp; omega) | omega) _ | with_reducible refine Below.trans ?_ (Below.mono (by with_reducible assumption) (by first | exact Nat.le_refl _ | (simp; done) | (simp; omega) | omega))))⟩
        · obtain rfl : m = n := by omega
          have HE : Hid (fitV f s m = .tuple #[.agg #[.int .i64 s, .int .i64 (mnTo f 0 m), .int .i64 (mnTo f 1 m), .int .i64 (mnTo f 2 m)], .int .i64 0]) := by
            show fitV f s m = _
            unfold fitV
            rw [hall, HRT.out, Bool.and_self, if_pos rfl]
          have HB := Lib.hid hb
          clear hb rr ro hall
          go_wp2
          refine bodyPost_ret (v := .tuple #[.agg #[.int .i64 s, .int .i64 (mnTo f 0 m), .int .i64 (mnTo f 1 m), .int .i64 (mnTo f 2 m)], .int .i64 0]) (by unfold results; simp only [Try.results21]; go_simp) rfl ⟨by rw [HE.out], ?_⟩
          have hb := HB.out
          (repeat (first | with_reducible exact Below.refl _ _ | with_reducible assumption | with_reducible refine below_drewN ?_ _ | with_reducible refine Below.drew ?_ | with_reducible refine Below.alloc ?_ (by first | exact Nat.le_refl _ | (simp; done) | (simp; omega) | omega) _ | with_reducible refine Below.setCell ?_ (by first | exact Nat.le_refl _ | (simp; done) | (simp; omega) | omega) _ | with_reducible refine Below.trans ?_ (Below.mono (by with_reducible assumption) (by first | exact Nat.le_refl _ | (simp; done) | (simp; omega) | omega))))
      · have hr : rightB s (mnTo f 0 n) (mnTo f 1 n) (mnTo f 2 n) = false := by simpa using hr
        have RL : ∀ W, Calls Try.prog 14 #[.agg #[.int .i64 s, .int .i64 (mnTo f 0 n), .int .i64 (mnTo f 1 n), .int .i64 (mnTo f 2 n)]] W fun e w' => e = .returned (.bool false) ∧ Below W.heap.size W w' := fun W => by have := right_any s (mnTo f 0 n) (mnTo f 1 n) (mnTo f 2 n) W; rw [hr] at this; exact this
        have RL := Lib.hid RL
        have HE : Hid (fitV f s n = .tuple #[.agg #[.int .i64 0, .int .i64 0, .int .i64 0, .int .i64 0], .int .i64 2]) := by
          show fitV f s n = _
          unfold fitV
          rw [hr, Bool.false_and, if_neg (by simp)]
        clear hr
        go_wp2_with fail
        refine (RL.out _).mono ?_
        rintro e w2 ⟨rfl, hb2⟩
        obtain ⟨hc2, hz2⟩ := bcell hb2
        have HB2 := Lib.hid (below_then HB.out hb2)
        have sl2 : w.heap.size < w2.heap.size := by have := hb2.size; omega
        clear hb2
        go_wp2
        exact bodyPost_ret (v := .tuple #[.agg #[.int .i64 0, .int .i64 0, .int .i64 0, .int .i64 0], .int .i64 2]) (by unfold results; simp only [Try.results21]; go_simp) rfl ⟨by rw [HE.out], by have hb := HB2.out; (repeat (first | with_reducible exact Below.refl _ _ | with_reducible assumption | with_reducible refine below_drewN ?_ _ | with_reducible refine Below.drew ?_ | with_reducible refine Below.alloc ?_ (by first | exact Nat.le_refl _ | (simp; done) | (simp; omega) | omega) _ | with_reducible refine Below.setCell ?_ (by first | exact Nat.le_refl _ | (simp; done) | (simp; omega) | omega) _ | with_reducible refine Below.trans ?_ (Below.mono (by with_reducible assumption) (by first | exact Nat.le_refl _ | (simp; done) | (simp; omega) | omega))))⟩
end Go.Proofs.Ytppkbnajpeoaaaa
