/- LatticeFits: plain facts and the law's walk. -/
import Derived.Test.YtppkbnajpeoaaaaE2
import Derived.OwnWalk
namespace Go.Proofs.Ytppkbnajpeoaaaa
open Go.RowKit

theorem own_below {w w' : World} {base : Nat} {e : TypeId} {size : Nat} {v : Value} {n : Nat} {xs : List Value} (h : w.ownsRow base e size v n xs) (hb : Below w.heap.size w w') : w'.ownsRow base e size v n xs :=
  h.kept (row := none) ⟨hb.os, hb.tape, hb.output, hb.size, fun i hi _ => hb.block i hi⟩ (Classical.em _)
theorem Rw.grown {w w' : World} {b : Nat} {xs : List Value} {row : Option Nat} (h : Rw w b xs) (hg : w.grownBy w' row) (hne : ∀ k, row = some k → b ≠ k) : Rw w' b xs := by
  have hl := h.lt
  obtain ⟨t, h⟩ := h
  exact ⟨t, (hg.block b hl (fun e => hne b e.symm rfl)).trans h⟩
theorem news_at {w : World} {b : Nat} {xs : List Value} (h : Rw w b xs) : ∀ j u, xs[j]? = some u → w.cell? ((⟨b, 0, none⟩ : Addr).add j) = some u := by
  intro j u hu
  have e : (⟨b, 0, none⟩ : Addr).add j = ⟨b, j, none⟩ := by
    unfold Addr.add
    split
    · rename_i h; subst h; rfl
    · simp
  rw [e, h.cell j, hu]
theorem one_i3 (x y z : Int) : ∀ u ∈ i3 x y z, u.oneCell' = true := by
  intro u hu
  simp [i3] at hu
  rcases hu with rfl | rfl | rfl <;> rfl
def pts (g : Nat → Nat → Int) : Nat → List Value
  | 0 => []
  | n + 1 => pts g n ++ i3 (g n 0) (g n 1) (g n 2)
theorem pts_length (g : Nat → Nat → Int) : ∀ n, (pts g n).length = n * 3 := by
  intro n
  induction n with
  | zero => rfl
  | succ n ih => simp [pts, ih, i3]; omega
theorem pts_at (g : Nat → Nat → Int) : ∀ n i k, i < n → k < 3 → (pts g n)[i * 3 + k]? = some (.int .i64 (g i k)) := by
  intro n
  induction n with
  | zero => intro i k h; omega
  | succ n ih =>
    intro i k hi hk
    unfold pts
    by_cases e : i = n
    · subst e
      rw [List.getElem?_append_right (by rw [pts_length]; omega), pts_length, show i * 3 + k - i * 3 = k by omega]
      rcases (show k = 0 ∨ k = 1 ∨ k = 2 by omega) with rfl | rfl | rfl <;> rfl
    · rw [List.getElem?_append_left (by rw [pts_length]; omega)]
      exact ih i k (by omega) hk
/-- the least of numbers that are none of them below 0, and of which one is 0 -/
theorem lo_zero (g : Nat → Nat → Int) (k n : Nat) (h : ∀ i, i < n → 0 ≤ g i k) (z : ∃ i, i < n ∧ g i k = 0) : loTo g k n = 0 := by
  obtain ⟨i, hi, e⟩ := z
  have h1 := lo_le g k n i hi
  have h2 := any_lo g k n (by omega)
  have : ∀ m, m ≤ n → anyTo g k (loTo g k n) m = true → 0 ≤ loTo g k n := by
    intro m
    induction m with
    | zero => intro _ h; simp [anyTo] at h
    | succ m ih =>
      intro hm h'
      simp only [anyTo, Bool.or_eq_true, beq_iff_eq] at h'
      rcases h' with h' | h'
      · exact ih (by omega) h'
      · have := h m (by omega); omega
  have := this n (Nat.le_refl _) h2
  omega
theorem snapX_zero (s : Int) (hs : 1 ≤ s) : snapX s 0 = 0 := by
  have := snapX_back s 0 hs
  rwa [Int.mul_zero] at this
theorem snap_lo (f : Nat → Nat → Int) (s : Int) (hs : 1 ≤ s) (n k : Nat) (hn : 0 < n) : loTo (fun i k => snapX s (f i k - mnTo f k n)) k n = 0 := by
  refine lo_zero _ k n (fun i hi => ?_) ?_
  · have h := mn_le f k n i hi
    have := snapX_mono s 0 (f i k - mnTo f k n) hs (by omega)
    rw [snapX_zero s hs] at this
    exact this
  · obtain ⟨i, hi, e⟩ := mn_is f k n hn
    refine ⟨i, hi, ?_⟩
    show snapX s (f i k - mnTo f k n) = 0
    rw [e, Int.sub_self, snapX_zero s hs]
theorem pts_info : (Try.prog.info? 23).map (fun i => (i.zero, i.size, i.bytes)) = some (some (.agg #[.int .i64 0, .int .i64 0, .int .i64 0]), 3, 24) := by kernel_rfl
theorem eq25_zero (w : World) : (Op.equalIn 10000 25 (.agg #[.int .i64 0, .int .i64 0, .int .i64 0, .int .i64 0]) (.agg #[.int .i64 0, .int .i64 0, .int .i64 0, .int .i64 0])).run Try.prog w = .ok true w := by kernel_rfl

set_option maxHeartbeats 1000000 in
theorem fitsL_great (s : Int) (A : Option Addr) (len cap : Nat) (w : World) (hl : 40 < len) :
    Calls Try.prog 10 #[.int .i64 s, .slice A len cap] w fun e w' => e = .returned (.bool true) ∧ Below w.heap.size w w' := by
  go_enter Try.func10, Try.ntmps10
  go_wp2_with fail
  refine (awake_any _).mono ?_
  rintro e w1 ⟨rfl, hb1⟩
  go_wp2
  go_ret
  exact ⟨rfl, hb1⟩

set_option maxHeartbeats 1000000 in
theorem fitsL_no (s : Int) (A : Option Addr) (len cap : Nat) (w : World) (hl : len ≤ 40) (k : Int) (hk : (k == 0) = false)
    (X : ∀ W, Below w.heap.size w W → Calls Try.prog 21 #[.int .i64 s, .slice A len cap] W fun e w' => e = .returned (.tuple #[.agg #[.int .i64 0, .int .i64 0, .int .i64 0, .int .i64 0], .int .i64 k]) ∧ Below W.heap.size W w')
    (Y : ∀ W, Below w.heap.size w W → Calls Try.prog 22 #[.int .i64 s, .slice A len cap] W fun e w' => e = .returned (.tuple #[.agg #[.int .i64 0, .int .i64 0, .int .i64 0], .int .i64 k]) ∧ Below W.heap.size W w') :
    Calls Try.prog 10 #[.int .i64 s, .slice A len cap] w fun e w' => e = .returned (.bool true) ∧ Below w.heap.size w w' := by
  have HX := Lib.hid X
  have HY := Lib.hid Y
  clear X Y
  have hk2 : (k != 0) = true := by simpa using hk
  have q0 := eq25_zero
  go_enter Try.func10, Try.ntmps10
  go_wp2_with fail
  refine (awake_any _).mono ?_
  rintro e w1 ⟨rfl, hb1⟩
  go_wp2_with fail
  refine (HX.out _ hb1).mono ?_
  rintro e w2 ⟨rfl, hb2⟩
  go_wp2_with fail
  refine (HY.out _ (below_alloc (below_then hb1 hb2) _)).mono ?_
  rintro e w3 ⟨rfl, hb3⟩
  obtain ⟨hc3, hz3⟩ := bcell hb3
  have s3 : w2.heap.size < w3.heap.size := by have := hb3.size; simp at this; omega
  have hb := below_then (below_alloc (below_then hb1 hb2) _) hb3
  go_wp2
  go_ret
  exact ⟨rfl, below_alloc hb _⟩

def FitsRel (f : Nat → Nat → Int) (s a b c : Int) (w : World) (B BASE len : Nat) (v i : Value) (wr : World) : Prop :=
  ∃ m : Nat, m ≤ len ∧ i = .int .i64 m ∧ Below w.heap.size w wr ∧ Rw wr B (i4 s a b c) ∧ BASE ≤ wr.heap.size ∧
    wr.ownsRow BASE 23 3 v m (pts (fun i k => snapX s (f i k - (if k = 0 then a else if k = 1 then b else c))) m)

set_option maxHeartbeats 4000000 in
theorem fitsL_yes (s a bb c : Int) (b off len cap : Nat) (f : Nat → Nat → Int) (w : World) (hl : len ≤ 40) (hcap : len ≤ cap) (hpos : 0 < len)
    (hc : ∀ i k, i < len → k < 3 → w.cell? ⟨b, off + i * 3 + k, none⟩ = some (.int .i64 (f i k)))
    (X : ∀ W, Below w.heap.size w W → Calls Try.prog 21 #[.int .i64 s, .slice (some ⟨b, off, none⟩) len cap] W fun e w' => e = .returned (.tuple #[.agg #[.int .i64 s, .int .i64 a, .int .i64 bb, .int .i64 c], .int .i64 0]) ∧ Below W.heap.size W w')
    (Y : ∀ W, Below w.heap.size w W → Calls Try.prog 22 #[.int .i64 s, .slice (some ⟨b, off, none⟩) len cap] W fun e w' => e = .returned (.tuple #[.agg #[.int .i64 a, .int .i64 bb, .int .i64 c], .int .i64 0]) ∧ Below W.heap.size W w')
    (hr : rightB s a bb c = true) (hall : allOk f s a bb c len = true) (hz : loTo (fun i k => snapX s (f i k - (if k = 0 then a else if k = 1 then bb else c))) 0 len = 0 ∧ loTo (fun i k => snapX s (f i k - (if k = 0 then a else if k = 1 then bb else c))) 1 len = 0 ∧ loTo (fun i k => snapX s (f i k - (if k = 0 then a else if k = 1 then bb else c))) 2 len = 0) :
    Calls Try.prog 10 #[.int .i64 s, .slice (some ⟨b, off, none⟩) len cap] w fun e w' => e = .returned (.bool true) ∧ Below w.heap.size w w' := by
  have HC := Lib.hid hc
  have HX := Lib.hid X
  have HY := Lib.hid Y
  have HRT := Lib.hid hr
  have HALL := Lib.hid hall
  have HZ := Lib.hid hz
  have RL : Hid (∀ W, Calls Try.prog 14 #[.agg #[.int .i64 s, .int .i64 a, .int .i64 bb, .int .i64 c]] W fun e w' => e = .returned (.bool true) ∧ Below W.heap.size W w') := fun W => by have := right_any s a bb c W; rw [hr] at this; exact this
  clear hc X Y hr hall hz
  have q0 : ∀ w, (Op.equalIn 10000 23 (.agg #[.int .i64 a, .int .i64 bb, .int .i64 c]) (.agg #[.int .i64 a, .int .i64 bb, .int .i64 c])).run Try.prog w = .ok true w := fun w => by have := eq23 a bb c a bb c w; rw [eqB_refl] at this; exact this
  have q1 : ∀ w, (Op.equalIn 10000 23 (.agg #[.int .i64 0, .int .i64 0, .int .i64 0]) (.agg #[.int .i64 0, .int .i64 0, .int .i64 0])).run Try.prog w = .ok true w := fun w => eq23 0 0 0 0 0 0 w
  go_enter Try.func10, Try.ntmps10
  go_wp2_with fail
  refine (awake_any _).mono ?_
  rintro e w1 ⟨rfl, hb1⟩
  go_wp2_with fail
  refine (HX.out _ hb1).mono ?_
  rintro e w2 ⟨rfl, hb2⟩
  have hb12 := below_alloc (below_then hb1 hb2) (.cells #[.int .i64 s, .int .i64 a, .int .i64 bb, .int .i64 c] 25)
  have R2 := Rw.new' (w := w2) (t := 25) (i4 s a bb c) rfl
  go_wp2_with fail
  refine (HY.out _ hb12).mono ?_
  rintro e w3 ⟨rfl, hb3⟩
  obtain ⟨hc3, hz3⟩ := bcell hb3
  have s3 : w2.heap.size < w3.heap.size := by have := hb3.size; simp at this; omega
  have HB3 := Lib.hid (below_then hb12 hb3)
  have HR3 := Lib.hid (R2.below hb3 (by first | (simp; done) | (simp; omega) | omega))
  clear hb1 hb2 hb3 hb12 R2
  go_wp2_with fail
  refine (RL.out _).mono ?_
  rintro e w4 ⟨rfl, hb4⟩
  have s4 : w2.heap.size < w4.heap.size := by have := hb4.size; simp at this; omega
  have HB4 := Lib.hid (below_then (below_alloc HB3.out _) hb4)
  have HR4 := Lib.hid ((HR3.out.alloc _).below hb4 (by first | (simp; done) | (simp; omega) | omega))
  have HB3 := Lib.hid (HB4.out)
  clear HR3 hb4 hc3 hz3
  go_wp2
  go_loopw [9, 10] (fun v i wr => FitsRel f s a bb c w w2.heap.size w4.heap.size len v i wr) (fun _ i _ => len - (intOf i).toNat)
  case atStart => exact ⟨0, by omega, rfl, HB4.out, HR4.out, Nat.le_refl _, World.ownsRow_nil _ _ _ _⟩
  case round =>
    clear HB4 HR4 q0
    obtain ⟨m, hm, rfl, hb, rr, hbase, hown⟩ := hrel
    obtain ⟨wo, rfl⟩ : ∃ wo : World, wo = wr := ⟨_, rfl⟩
    by_cases hlt : m < len
    · have e0 := HC.out m 0 hlt (by omega)
      have e1 := HC.out m 1 hlt (by omega)
      have e2 := HC.out m 2 hlt (by omega)
      have k0 : wo.cell? ⟨b, off + m * 3, none⟩ = some (.int .i64 (f m 0)) := (hb.cell (World.block_lt_of_cell? _ _ e0)).trans e0
      have k1 : wo.cell? ⟨b, off + m * 3 + 1, none⟩ = some (.int .i64 (f m 1)) := (hb.cell (World.block_lt_of_cell? _ _ e1)).trans e1
      have k2 : wo.cell? ⟨b, off + m * 3 + 2, none⟩ = some (.int .i64 (f m 2)) := (hb.cell (World.block_lt_of_cell? _ _ e2)).trans e2
      have o0 : wo.cell? ⟨w2.heap.size, 0, none⟩ = some (.int .i64 s) := rr.cell 0
      have o1 : wo.cell? ⟨w2.heap.size, 1, none⟩ = some (.int .i64 a) := rr.cell 1
      have o2 : wo.cell? ⟨w2.heap.size, 2, none⟩ = some (.int .i64 bb) := rr.cell 2
      have o3 : wo.cell? ⟨w2.heap.size, 3, none⟩ = some (.int .i64 c) := rr.cell 3
      have bl : b < wo.heap.size := World.block_lt_of_cell? _ _ k0
      have sl := rr.lt
      have i1 : (0 : Int) ≤ (m : Int) := by omega
      have i2 : (m : Int) < (len : Int) := by omega
      have ho := allOk_at f s a bb c len HALL.out m hlt
      have SY : Hid (∀ W, Calls Try.prog 12 #[.agg #[.int .i64 s, .int .i64 a, .int .i64 bb, .int .i64 c], .agg #[.int .i64 (f m 0), .int .i64 (f m 1), .int .i64 (f m 2)]] W fun e w' => e = .returned (.tuple #[.agg #[.int .i64 (snapX s (f m 0 - a)), .int .i64 (snapX s (f m 1 - bb)), .int .i64 (snapX s (f m 2 - c))], .int .i64 0]) ∧ Below W.heap.size W w') := fun W => snap_yes s a bb c (f m 0) (f m 1) (f m 2) W HRT.out ho
      clear e0 e1 e2 ho
      have HB := Lib.hid hb
      have HR := Lib.hid rr
      have HOWN := Lib.hid hown
      clear hb rr hown
      go_wp2_with fail
      have hk : ∀ w', Below wo.heap.size wo w' → ∀ b o, b < wo.heap.size → w'.cell? ⟨b, o, none⟩ = wo.cell? ⟨b, o, none⟩ := fun w' h b o hb => h.cell (p := ⟨b, o, none⟩) hb
      go_region_held3 (fun w' => Below wo.heap.size wo w') ((repeat' (first | with_reducible assumption | with_reducible exact Below.refl _ _ | with_reducible refine Below.drew ?_ | with_reducible refine below_alloc ?_ _ | with_reducible refine below_set ?_ ?_ _ | with_reducible refine below_then ?_ (by with_reducible assumption) | with_reducible exact Nat.le_refl _ | with_reducible exact Below.size (by with_reducible assumption))))
        (first | (go_at_call 12; ((with_reducible refine (SY.out _).mono ?_); rintro e w5 ⟨rfl, hb5⟩; have ⟨hc5, hz5⟩ := bcell hb5; have hb6 : Below wo.heap.size wo w5 := (by (repeat' (first | with_reducible assumption | with_reducible exact Below.refl _ _ | with_reducible refine Below.drew ?_ | with_reducible refine below_alloc ?_ _ | with_reducible refine below_set ?_ ?_ _ | with_reducible refine below_then ?_ (by with_reducible assumption) | with_reducible exact Nat.le_refl _ | with_reducible exact Below.size (by with_reducible assumption)))); have q2 : wo.heap.size ≤ w5.heap.size := hb6.size)))
      · have HB5 := Lib.hid hb5
        have HB6 := Lib.hid hb6
        clear hb5 hb6 hk
        obtain ⟨i0, hi0, hz0, hz1, hz2⟩ := info_parts pts_info
        go_wp2_with (at_builtin; refine wpList_append_own _ rfl _ _ 43 rfl w4.heap.size 23 i0 _ 3 24 Try.underlying43 hi0 hz0 hz1 hz2 rfl (by decide) _ m (pts (fun i k => snapX s (f i k - (if k = 0 then a else if k = 1 then bb else c))) m) rfl (own_below HOWN.out (by have hb6 := HB6.out; (repeat' (first | with_reducible assumption | with_reducible exact Below.refl _ _ | with_reducible refine Below.drew ?_ | with_reducible refine below_alloc ?_ _ | with_reducible refine below_set ?_ ?_ _ | with_reducible refine below_then ?_ (by with_reducible assumption) | with_reducible exact Nat.le_refl _ | with_reducible exact Below.size (by with_reducible assumption))))) ⟨w5.heap.size + 1, 0, none⟩ 1 1 (i3 (snapX s (f m 0 - a)) (snapX s (f m 1 - bb)) (snapX s (f m 2 - c))) rfl rfl (news_at (Rw.new' _ (by first | (simp; done) | (simp; omega) | omega))) (one_i3 _ _ _) (by unfold maxLen; omega) (by omega) (by simp; omega) ?_; intro v7 w7 hown7 hg7 _hv7)
        have hlt7 := HOWN.out.lt
        have hb6 := HB6.out
        refine ⟨⟨m + 1, by omega, by go_num, ?_, ?_, Nat.le_trans hbase (Nat.le_trans q2 (Nat.le_trans (by first | (simp; done) | (simp; omega)) hg7.size)), hown7⟩, by simp [intOf]; omega⟩
        · refine Below.grown ?_ hg7 (by have := HB.out.size; simp; omega) (fun k hk => ?_)
          · refine below_then HB.out ?_
            (repeat' (first | with_reducible assumption | with_reducible exact Below.refl _ _ | with_reducible refine Below.drew ?_ | with_reducible refine below_alloc ?_ _ | with_reducible refine below_set ?_ ?_ _ | with_reducible refine below_then ?_ (by with_reducible assumption) | with_reducible exact Nat.le_refl _ | with_reducible exact Below.size (by with_reducible assumption)))
          · have := (hlt7 k hk).1
            have := HB3.out.size
            omega
        · refine Rw.grown (HR.out.below (B := wo.heap.size) ?_ sl) hg7 (fun k hk => ?_)
          · (repeat' (first | with_reducible assumption | with_reducible exact Below.refl _ _ | with_reducible refine Below.drew ?_ | with_reducible refine below_alloc ?_ _ | with_reducible refine below_set ?_ ?_ _ | with_reducible refine below_then ?_ (by with_reducible assumption) | with_reducible exact Nat.le_refl _ | with_reducible exact Below.size (by with_reducible assumption)))
          · have := (hlt7 k hk).1
            omega
      · have HB5 := Lib.hid hb5
        have HB6 := Lib.hid hb6
        clear hb5 hb6 hk
        obtain ⟨i0, hi0, hz0, hz1, hz2⟩ := info_parts pts_info
        go_wp2_with (at_builtin; refine wpList_append_own _ rfl _ _ 43 rfl w4.heap.size 23 i0 _ 3 24 Try.underlying43 hi0 hz0 hz1 hz2 rfl (by decide) _ m (pts (fun i k => snapX s (f i k - (if k = 0 then a else if k = 1 then bb else c))) m) rfl (own_below HOWN.out (by have hb6 := HB6.out; (repeat' (first | with_reducible assumption | with_reducible exact Below.refl _ _ | with_reducible refine Below.drew ?_ | with_reducible refine below_alloc ?_ _ | with_reducible refine below_set ?_ ?_ _ | with_reducible refine below_then ?_ (by with_reducible assumption) | with_reducible exact Nat.le_refl _ | with_reducible exact Below.size (by with_reducible assumption))))) ⟨w5.heap.size, 0, none⟩ 1 1 (i3 (snapX s (f m 0 - a)) (snapX s (f m 1 - bb)) (snapX s (f m 2 - c))) rfl rfl (news_at (Rw.new' _ (by first | (simp; done) | (simp; omega) | omega))) (one_i3 _ _ _) (by unfold maxLen; omega) (by omega) (by simp; omega) ?_; intro v7 w7 hown7 hg7 _hv7)
        have hlt7 := HOWN.out.lt
        have hb6 := HB6.out
        refine ⟨⟨m + 1, by omega, by go_num, ?_, ?_, Nat.le_trans hbase (Nat.le_trans q2 (Nat.le_trans (by first | (simp; done) | (simp; omega)) hg7.size)), hown7⟩, by simp [intOf]; omega⟩
        · refine Below.grown ?_ hg7 (by have := HB.out.size; simp; omega) (fun k hk => ?_)
          · refine below_then HB.out ?_
            (repeat' (first | with_reducible assumption | with_reducible exact Below.refl _ _ | with_reducible refine Below.drew ?_ | with_reducible refine below_alloc ?_ _ | with_reducible refine below_set ?_ ?_ _ | with_reducible refine below_then ?_ (by with_reducible assumption) | with_reducible exact Nat.le_refl _ | with_reducible exact Below.size (by with_reducible assumption)))
          · have := (hlt7 k hk).1
            have := HB3.out.size
            omega
        · refine Rw.grown (HR.out.below (B := wo.heap.size) ?_ sl) hg7 (fun k hk => ?_)
          · (repeat' (first | with_reducible assumption | with_reducible exact Below.refl _ _ | with_reducible refine Below.drew ?_ | with_reducible refine below_alloc ?_ _ | with_reducible refine below_set ?_ ?_ _ | with_reducible refine below_then ?_ (by with_reducible assumption) | with_reducible exact Nat.le_refl _ | with_reducible exact Below.size (by with_reducible assumption)))
          · have := (hlt7 k hk).1
            omega
    · obtain rfl : m = len := by omega
      obtain ⟨hlen, hform⟩ := hown
      rcases hform with ⟨_, h0⟩ | ⟨g, cap', cur, rfl, hg, hheap, hcap', hmax, hsz, htake⟩
      · omega
      have hcell : ∀ i k, i < m → k < 3 → wo.cell? ⟨g, 0 + i * 3 + k, none⟩ = some (.int .i64 ((fun i k => snapX s (f i k - (if k = 0 then a else if k = 1 then bb else c))) i k)) := by
        intro i k hi hk
        have own : wo.ownsRow w4.heap.size 23 3 (.slice (some ⟨g, 0, none⟩) m cap') m (pts (fun i k => snapX s (f i k - (if k = 0 then a else if k = 1 then bb else c))) m) := ⟨hlen, .inr ⟨g, cap', cur, rfl, hg, hheap, hcap', hmax, hsz, htake⟩⟩
        rw [show 0 + i * 3 + k = i * 3 + k by omega, own.cellAt _ (by omega), pts_at _ m i k hi hk]
      have BX := box_some g 0 m cap' _ wo hl hcap' hcell
      rw [HZ.out.1, HZ.out.2.1, HZ.out.2.2] at BX
      have HB := Lib.hid hb
      have BX := Lib.hid BX
      clear hb rr hlen hheap hsz htake hcell
      go_wp2_with fail
      refine (Hid.out BX).mono ?_
      rintro e w5 ⟨rfl, hb5⟩
      have hb6 := below_alloc (below_alloc (below_then HB.out hb5) (.cells #[.int .i64 0, .int .i64 0, .int .i64 0] 23))
      go_wp2
      go_ret
      exact ⟨rfl, hb6 _⟩

theorem fitsL_any (s : Int) (v : Value) (w : World) (h : IsPts w v) :
    Calls Try.prog 10 #[.int .i64 s, v] w fun e w' => e = .returned (.bool true) ∧ Below w.heap.size w w' := by
  rcases h with ⟨A, cap, rfl⟩ | ⟨b, off, len, cap, f, rfl, h0, hcap, _, hc, _⟩
  · have hs : (s < 1) ∨ (1 ≤ s ∧ 1048576 < s) ∨ ((1 ≤ s ∧ s ≤ 1048576) ∧ 0 = 0) := by omega
    exact fitsL_no s A 0 cap w (by omega) 1 rfl (fun W _ => fit_bad s A 0 cap W hs) (fun W _ => rfit_bad s A 0 cap W hs)
  · by_cases hl : len ≤ 40
    · by_cases hs : 1 ≤ s ∧ s ≤ 1048576
      · have hcW : ∀ W, Below w.heap.size w W → ∀ i k, i < len → k < 3 → W.cell? ⟨b, off + i * 3 + k, none⟩ = some (.int .i64 (f i k)) := fun W hW i k hi hk => (hW.cell (World.block_lt_of_cell? _ _ (hc i k hi hk))).trans (hc i k hi hk)
        by_cases hc2 : (rightB s (mnTo f 0 len) (mnTo f 1 len) (mnTo f 2 len) && allOk f s (mnTo f 0 len) (mnTo f 1 len) (mnTo f 2 len) len) = true
        · have X := fun W (hW : Below w.heap.size w W) => fit_some s b off len cap f W hs.1 hs.2 hl hcap h0 (hcW W hW)
          have Y := fun W (hW : Below w.heap.size w W) => rfit_some s b off len cap f W hs.1 hs.2 hl hcap h0 (hcW W hW)
          have e1 : fitV f s len = .tuple #[.agg #[.int .i64 s, .int .i64 (mnTo f 0 len), .int .i64 (mnTo f 1 len), .int .i64 (mnTo f 2 len)], .int .i64 0] := by unfold fitV; rw [if_pos hc2]
          have e2 : rfitV f s len = .tuple #[.agg #[.int .i64 (mnTo f 0 len), .int .i64 (mnTo f 1 len), .int .i64 (mnTo f 2 len)], .int .i64 0] := by unfold rfitV; rw [if_pos hc2]
          rw [e1] at X
          rw [e2] at Y
          simp only [Bool.and_eq_true] at hc2
          have lo : ∀ k, k < 3 → loTo (fun i k => snapX s (f i k - (if k = 0 then mnTo f 0 len else if k = 1 then mnTo f 1 len else mnTo f 2 len))) k len = 0 := by
            intro k hk
            have := snap_lo f s hs.1 len k h0
            have e : ∀ n, loTo (fun i k => snapX s (f i k - (if k = 0 then mnTo f 0 len else if k = 1 then mnTo f 1 len else mnTo f 2 len))) k n = loTo (fun i k => snapX s (f i k - mnTo f k len)) k n := by
              intro n
              induction n with
              | zero => rfl
              | succ n ih =>
                unfold loTo
                rw [ih]
                rcases (show k = 0 ∨ k = 1 ∨ k = 2 by omega) with rfl | rfl | rfl <;> rfl
            rw [e len, this]
          exact fitsL_yes s _ _ _ b off len cap f w hl hcap h0 hc X Y hc2.1 hc2.2 ⟨lo 0 (by omega), lo 1 (by omega), lo 2 (by omega)⟩
        · have e1 : fitV f s len = .tuple #[.agg #[.int .i64 0, .int .i64 0, .int .i64 0, .int .i64 0], .int .i64 2] := by unfold fitV; rw [if_neg hc2]
          have e2 : rfitV f s len = .tuple #[.agg #[.int .i64 0, .int .i64 0, .int .i64 0], .int .i64 2] := by unfold rfitV; rw [if_neg hc2]
          exact fitsL_no s _ len cap w hl 2 rfl (fun W hW => by rw [← e1]; exact fit_some s b off len cap f W hs.1 hs.2 hl hcap h0 (hcW W hW)) (fun W hW => by rw [← e2]; exact rfit_some s b off len cap f W hs.1 hs.2 hl hcap h0 (hcW W hW))
      · have hs : (s < 1) ∨ (1 ≤ s ∧ 1048576 < s) ∨ ((1 ≤ s ∧ s ≤ 1048576) ∧ len = 0) := by omega
        exact fitsL_no s _ len cap w hl 1 rfl (fun W _ => fit_bad s _ len cap W hs) (fun W _ => rfit_bad s _ len cap W hs)
    · exact fitsL_great s _ len cap w (by omega)
end Go.Proofs.Ytppkbnajpeoaaaa
