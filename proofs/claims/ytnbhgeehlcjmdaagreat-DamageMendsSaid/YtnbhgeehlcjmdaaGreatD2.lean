/- Bytes of numbers, sums behind bytes, rows of bytes held against one another: walks. -/
import Derived.Test.YtnbhgeehlcjmdaaGreatD0
namespace Go.Proofs.YtnbhgeehlcjmdaaGreat
open Go.RowKit

def valOf (xs : List Nat) : Nat := xs.foldl (fun n x => 256 * n + x) 0
theorem valOf_snoc (xs : List Nat) (x : Nat) : valOf (xs ++ [x]) = 256 * valOf xs + x := by simp [valOf, List.foldl_append]
theorem valOf_lt (xs : List Nat) (h : ∀ x ∈ xs, x < 256) : ∀ k, valOf (xs.take k) < 256 ^ k := by
  intro k
  induction k with
  | zero => simp [valOf]
  | succ k ih =>
    by_cases hk : k < xs.length
    · rw [take_snoc xs 0 k hk, valOf_snoc, getD_at _ _ _ hk]
      have := h _ (List.getElem_mem hk)
      rw [Nat.pow_succ]
      omega
    · rw [List.take_of_length_le (by omega)]
      rw [List.take_of_length_le (by omega)] at ih
      rw [Nat.pow_succ]
      omega
theorem valOf_small (xs : List Nat) (h : ∀ x ∈ xs, x < 256) (k : Nat) (hk : k ≤ 4) : valOf (xs.take k) < 4294967296 := by
  have := valOf_lt xs h k
  have h2 : 256 ^ k ≤ 256 ^ 4 := Nat.pow_le_pow_right (by decide) hk
  have h3 : (256 : Nat) ^ 4 = 4294967296 := by decide
  omega

theorem or8 (y v : Nat) (hy : y < 4294967296) (hv : v < 256) : bits .or .i64 ((y : Int) * 256) (v : Int) = ((y * 256 + v : Nat) : Int) := by
  have hw : ∀ n : Int, 0 ≤ n → n < 2 ^ 62 → IntKind.i64.wrap n = n := fun n h0 h1 => by rw [IntKind.wrap_i64]; omega
  have := bits_join .i64 62 (by decide) hw 8 (x := (y : Int) * 256) (y := (v : Int)) (by omega) (by omega) (by omega) (by omega) (by omega) (by omega)
  rw [this]
  omega

set_option maxHeartbeats 400000 in
theorem told_any (A : Option Addr) (c : Nat) (xs : List Nat) (w : World) (hB : Byt w A xs) (hl : xs.length ≤ 4) :
    Calls Tryz.prog 37 #[.slice A xs.length c] w fun e w' => e = .returned (.int .i64 (valOf xs : Nat)) ∧ w = w' := by
  go_enter Tryz.func37, Tryz.ntmps37
  go_wp2
  go_loop [3, 8] (fun x i => ∃ k : Nat, k ≤ xs.length ∧ i = .int .i64 k ∧ x = .int .i64 (valOf (xs.take k) : Nat)) (fun _ i => xs.length - (intOf i).toNat)
  case atStart => exact ⟨0, by omega, rfl, by rw [List.take_zero]; rfl⟩
  case round =>
    obtain ⟨k, hk, rfl, rfl⟩ := hrel
    by_cases hlt : k < xs.length
    · obtain ⟨b, off, rfl, hc⟩ := hB.2 (by omega)
      have c0 := hc k hlt
      have x0 := hB.lt k
      have y0 := valOf_small xs hB.1 k (by omega)
      have HS : Hid (valOf (xs.take (k + 1)) = 256 * valOf (xs.take k) + xs.getD k 0) := by
        show valOf (xs.take (k + 1)) = 256 * valOf (xs.take k) + xs.getD k 0
        rw [take_snoc xs 0 k hlt, valOf_snoc]
      clear hc
      generalize xs.getD k 0 = v at *
      generalize valOf (xs.take k) = y at *
      go_wp2
      refine ⟨⟨k + 1, by omega, by go_num, ?_⟩, by simp [intOf]; omega⟩
      rw [HS.out, or8 y v y0 x0, Nat.mul_comm]
    · obtain rfl : k = xs.length := by omega
      rw [List.take_length]
      go_wp2
      go_ret
      exact ⟨rfl, rfl⟩

theorem drop_cons_of {α : Type} (l : List α) (d : α) (k : Nat) (h : k < l.length) : l.drop k = l.getD k d :: l.drop (k + 1) := by
  rw [getD_at _ _ _ h, List.drop_eq_getElem_cons h]
def sameB (xs ys : List Nat) : Bool := decide (xs = ys)
set_option maxHeartbeats 400000 in
theorem equal_any (A B : Option Addr) (c d : Nat) (xs ys : List Nat) (w : World) (hA : Byt w A xs) (hB : Byt w B ys) (hl : xs.length ≤ maxLen) :
    Calls Tryz.prog 15 #[.slice A xs.length c, .slice B ys.length d] w fun e w' => e = .returned (.bool (sameB xs ys)) ∧ ∃ n, w' = w.drewN n := by
  unfold maxLen at hl
  by_cases hlen : xs.length = ys.length
  · have hL : ((xs.length : Int) != (ys.length : Int)) = false := by simp [hlen]
    have HL := Lib.hid hlen
    have hl1 : xs.length ≤ ys.length := by omega
    have hl2 : ys.length ≤ xs.length := by omega
    clear hlen
    go_enter Tryz.func15, Tryz.ntmps15
    go_wp2
    clear hL
    go_loopw [13] (fun i wr => ∃ k n : Nat, wr = w.drewN n ∧ k ≤ xs.length ∧ i = .int .i64 k ∧ xs.take k = ys.take k) (fun i _ => xs.length - (intOf i).toNat)
    case atStart => exact ⟨0, 0, rfl, by omega, rfl, rfl⟩
    case round =>
      obtain ⟨k, n, rfl, hk, rfl, he⟩ := hrel
      have HE := Lib.hid he
      clear he
      by_cases hlt : k < xs.length
      · obtain ⟨b, off, rfl, hc⟩ := hA.2 (by omega)
        obtain ⟨b', off', rfl, hc'⟩ := hB.2 (by omega)
        have c0 := hc k hlt
        have c1 := hc' k (by omega)
        have S1 := Lib.hid (take_snoc xs 0 k hlt)
        have S2 := Lib.hid (take_snoc ys 0 k (by omega))
        have i1 : (0 : Int) ≤ (k : Int) := by omega
        have i2 : (k : Int) < (xs.length : Int) := by omega
        have i3 : (k : Int) < (ys.length : Int) := by omega
        clear hc hc'
        generalize xs.getD k 0 = x at *
        generalize ys.getD k 0 = y at *
        cases hxy : ((x : Int) != (y : Int))
        · go_wp2
          go_quiet (fail)
          go_wp2
          refine ⟨⟨k + 1, _, rfl, by omega, by go_num, ?_⟩, by simp [intOf]; omega⟩
          have hxy2 : (x : Int) = (y : Int) := by simpa using hxy
          rw [S1.out, S2.out, HE.out, show x = y by omega]
        · have hne : Hid (sameB xs ys = false) := by
            show sameB xs ys = false
            unfold sameB
            rw [decide_eq_false_iff_not]
            intro e
            have := S1.out
            rw [e, S2.out] at this
            have := List.append_inj_right' this rfl
            simp at this hxy
            omega
          go_wp2
          go_quiet (fail)
          go_wp2
          go_ret
          exact ⟨by rw [hne.out]; rfl, n + nq, by first | rfl | rw [World.drewN_drewN]⟩
      · obtain rfl : k = xs.length := by omega
        have hy : Hid (sameB xs ys = true) := by
          show sameB xs ys = true
          unfold sameB
          rw [decide_eq_true_iff]
          have := HE.out
          rwa [List.take_length, List.take_of_length_le (by omega)] at this
        go_wp2
        go_ret
        exact ⟨by rw [hy.out]; rfl, _, rfl⟩
  · have hL : ((xs.length : Int) != (ys.length : Int)) = true := by simp; omega
    have hne : Hid (sameB xs ys = false) := by
      show sameB xs ys = false
      unfold sameB
      rw [decide_eq_false_iff_not]
      intro e
      exact hlen (by rw [e])
    clear hlen
    go_enter Tryz.func15, Tryz.ntmps15
    go_wp2
    go_ret
    exact ⟨by rw [hne.out]; rfl, 0, rfl⟩

def ownD (w : World) (base : Nat) (v : Value) (xs : List Nat) : Prop := (∀ x ∈ xs, x < 256) ∧ w.ownsRow base 5 1 v xs.length (bys xs)

theorem own_empty {w : World} {base : Nat} (hb : base ≤ w.heap.size) : (w.alloc (.cells #[] 5)).ownsRow base 5 1 (.slice (some ⟨w.heap.size, 0, none⟩) 0 0) 0 [] :=
  World.ownsRow_made w #[] 0 hb (by decide) rfl
set_option maxHeartbeats 1000000 in
theorem clone_any (b off c : Nat) (ys : List Nat) (w : World) (hB : Byt w (some ⟨b, off, none⟩) ys) (hl : ys.length ≤ 65536) :
    Calls Tryz.prog 38 #[.slice (some ⟨b, off, none⟩) ys.length c] w fun e w' => ∃ v, e = .returned v ∧ ownD w' w.heap.size v ys ∧ Below w.heap.size w w' := by
  have HB := Lib.hid hB
  clear hB
  have hq := fun W => Lib.run_eql_slice_nil (P := Tryz.prog) W 25 5 (some ⟨b, off, none⟩) ys.length c 0 0 Tryz.underlying25
  go_enter Tryz.func38, Tryz.ntmps38
  go_wp2_with (at_builtin; refine wpList_append_byt rfl (.tmp 5) (.tmp 6) rfl w.heap.size _ 0 [] rfl (own_empty (Nat.le_refl _)) _ c ys rfl (HB.out.below (by (repeat (first | with_reducible exact Below.refl _ _ | with_reducible assumption | with_reducible refine below_drewN ?_ _ | with_reducible refine Below.drew ?_ | with_reducible refine Below.alloc ?_ (by first | exact Nat.le_refl _ | (simp; done) | (simp; omega) | omega) _ | with_reducible refine Below.setCell ?_ (by first | exact Nat.le_refl _ | (simp; done) | (simp; omega) | omega) _ | with_reducible refine Below.trans ?_ (Below.mono (by with_reducible assumption) (by first | exact Nat.le_refl _ | (simp; done) | (simp; omega) | omega)))))) (by omega) (by simp) ?_; intro v1 w1 own1 hg1 _hv1; have HB1 := Lib.hid (app_below (w0 := w) (below_alloc (Below.refl _ _) _) (own_empty (Nat.le_refl _)) hg1); have HO1 := Lib.hid own1; clear own1 hg1 _hv1)
  go_ret
  refine ⟨_, rfl, ⟨HB.out.1, ?_⟩, HB1.out⟩
  simpa using HO1.out

def num2 (n : Nat) : List Nat := [n / 256 % 256, n % 256]
def num4 (n : Nat) : List Nat := [n / 16777216 % 256, n / 65536 % 256, n / 256 % 256, n % 256]
def low4 (n : Nat) : List Nat := [n % 256, n / 256 % 256, n / 65536 % 256, n / 16777216 % 256]
theorem num2_lt (n : Nat) : ∀ x ∈ num2 n, x < 256 := by
  intro x hx
  simp [num2] at hx
  omega
theorem num4_lt (n : Nat) : ∀ x ∈ num4 n, x < 256 := by
  intro x hx
  simp [num4] at hx
  omega
theorem low4_lt (n : Nat) : ∀ x ∈ low4 n, x < 256 := by
  intro x hx
  simp [low4] at hx
  omega
end Go.Proofs.YtnbhgeehlcjmdaaGreat
/-! Numbers and sums put behind bytes: walks of box.number and box.summed. -/
namespace Go.Proofs.YtnbhgeehlcjmdaaGreat
open Go.RowKit

theorem grown_then {w a b : World} {o p : Option Nat} (h : w.grownBy a o) (k : a.grownBy b p) (hp : p = o ∨ ∃ g, p = some g ∧ w.heap.size ≤ g) : w.grownBy b o :=
  ⟨k.os.trans h.os, k.tape.trans h.tape, k.output.trans h.output, Nat.le_trans h.size k.size, fun i hi hne => by
    refine (k.block i (Nat.lt_of_lt_of_le hi h.size) ?_).trans (h.block i hi hne)
    rcases hp with rfl | ⟨g, rfl, hg⟩
    · exact hne
    · intro e; injection e with e; omega⟩
theorem grown_alloc (w : World) (x : Obj) (o : Option Nat) : w.grownBy (w.alloc x) o := grown_below ((Below.refl _ _).alloc (Nat.le_refl _) x) o
theorem byt1z {w : World} {g x : Nat} {z : Int} (hz : z = (x : Int)) (hx : x < 256) (h : g = w.heap.size) : Byt (w.alloc (.cells #[.int .u8 z] 5)) (some ⟨g, 0, none⟩) [x] := by
  subst hz
  exact byt1 hx h
/-- a block that was the row's, or a newer one -/
def NewOr (w : World) (o p : Option Nat) : Prop := p = o ∨ ∃ g, p = some g ∧ w.heap.size ≤ g
theorem NewOr.one {w a : World} {o p : Option Nat} (hs : w.heap.size ≤ a.heap.size) (h : p = o ∨ p = some a.heap.size) : NewOr w o p := by
  rcases h with h | h
  · exact .inl h
  · exact .inr ⟨_, h, hs⟩
theorem NewOr.two {w a : World} {o p q : Option Nat} (h : NewOr w o p) (hs : w.heap.size ≤ a.heap.size) (k : q = p ∨ q = some a.heap.size) : NewOr w o q := by
  rcases k with rfl | k
  · exact h
  · exact .inr ⟨_, k, hs⟩
theorem al_size (w : World) (x : Obj) : (w.alloc x).heap.size = w.heap.size + 1 := by simp

set_option maxHeartbeats 2000000 in
theorem number2_any (base n N : Nat) (v : Value) (xs : List Value) (w : World) (hown : w.ownsRow base 5 1 v n xs) (hb : base ≤ w.heap.size) (hn : n ≤ 1000000) (hN : N < 65536) :
    Calls Tryz.prog 32 #[v, .int .i64 (N : Int), .int .i64 2] w fun e w' => ∃ v', e = .returned v' ∧ w'.ownsRow base 5 1 v' (n + 2) (xs ++ bys (num2 N)) ∧ w.grownBy w' v.ownBlock ∧ NewOr w v.ownBlock v'.ownBlock := by
  go_enter Tryz.func32, Tryz.ntmps32
  go_wp2
  refine wp_loop_rounds 3 ?_
  rw [rounds_succ]
  go_wp2_with (at_builtin; refine wpList_append_byt rfl (.tmp 14) (.tmp 20) rfl base _ (n + 0) (xs) rfl (hown.alloc _) _ 1 [N / 256] rfl (byt1z (by first | rfl | (simp; done) | omega) (by omega) rfl) (by simp; omega) (by simp; omega) ?_; intro v1 w1 own1 hg1 hv1)
  have HG1 := Lib.hid (grown_then (grown_alloc w _ _) hg1 (.inl rfl))
  have HV1 := Lib.hid (NewOr.one (w := w) (by simp) hv1)
  have own1 : w1.ownsRow base 5 1 v1 (n + 1) _ := own1
  clear hg1 hv1
  rw [rounds_succ]
  go_wp2_with (at_builtin; refine wpList_append_byt rfl (.tmp 14) (.tmp 20) rfl base _ (n + 1) (xs ++ bys [N / 256]) rfl (own1.alloc _) _ 1 [(N) % 256] rfl (byt1z (by first | rfl | (simp; done) | omega) (by omega) rfl) (by simp; omega) (by have := HG1.out.size; simp; omega) ?_; intro v2 w2 own2 hg2 hv2)
  have HG2 := Lib.hid (grown_then (grown_then HG1.out (grown_alloc w1 _ v.ownBlock) (.inl rfl)) hg2 HV1.out)
  have HV2 := Lib.hid (NewOr.two HV1.out (by have := HG1.out.size; simp; omega) hv2)
  have own2 : w2.ownsRow base 5 1 v2 (n + 2) _ := own2
  clear hg2 hv2
  rw [rounds_succ]
  go_wp2
  go_ret
  refine ⟨_, rfl, ?_, HG2.out, HV2.out⟩
  refine (congrArg (fun l => World.ownsRow _ base 5 1 _ _ l) ?_).mp own2
  simp [bys, num2]
  omega

set_option maxHeartbeats 2000000 in
theorem number4_any (base n N : Nat) (v : Value) (xs : List Value) (w : World) (hown : w.ownsRow base 5 1 v n xs) (hb : base ≤ w.heap.size) (hn : n ≤ 1000000) (hN : N < 4294967296) :
    Calls Tryz.prog 32 #[v, .int .i64 (N : Int), .int .i64 4] w fun e w' => ∃ v', e = .returned v' ∧ w'.ownsRow base 5 1 v' (n + 4) (xs ++ bys (num4 N)) ∧ w.grownBy w' v.ownBlock ∧ NewOr w v.ownBlock v'.ownBlock := by
  go_enter Tryz.func32, Tryz.ntmps32
  go_wp2
  refine wp_loop_rounds 5 ?_
  rw [rounds_succ]
  go_wp2_with (at_builtin; refine wpList_append_byt rfl (.tmp 14) (.tmp 20) rfl base _ (n + 0) (xs) rfl (hown.alloc _) _ 1 [N / 16777216] rfl (byt1z (by first | rfl | (simp; done) | omega) (by omega) rfl) (by simp; omega) (by simp; omega) ?_; intro v1 w1 own1 hg1 hv1)
  have HG1 := Lib.hid (grown_then (grown_alloc w _ _) hg1 (.inl rfl))
  have HV1 := Lib.hid (NewOr.one (w := w) (by simp) hv1)
  have own1 : w1.ownsRow base 5 1 v1 (n + 1) _ := own1
  clear hg1 hv1
  rw [rounds_succ]
  go_wp2_with (at_builtin; refine wpList_append_byt rfl (.tmp 14) (.tmp 20) rfl base _ (n + 1) (xs ++ bys [N / 16777216]) rfl (own1.alloc _) _ 1 [(N / 65536) % 256] rfl (byt1z (by first | rfl | (simp; done) | omega) (by omega) rfl) (by simp; omega) (by have := HG1.out.size; simp; omega) ?_; intro v2 w2 own2 hg2 hv2)
  have HG2 := Lib.hid (grown_then (grown_then HG1.out (grown_alloc w1 _ v.ownBlock) (.inl rfl)) hg2 HV1.out)
  have HV2 := Lib.hid (NewOr.two HV1.out (by have := HG1.out.size; simp; omega) hv2)
  have own2 : w2.ownsRow base 5 1 v2 (n + 2) _ := own2
  clear hg2 hv2
  rw [rounds_succ]
  go_wp2_with (at_builtin; refine wpList_append_byt rfl (.tmp 14) (.tmp 20) rfl base _ (n + 2) (xs ++ bys [N / 16777216] ++ bys [(N / 65536) % 256]) rfl (own2.alloc _) _ 1 [(N / 256) % 256] rfl (byt1z (by first | rfl | (simp; done) | omega) (by omega) rfl) (by simp; omega) (by have := HG2.out.size; simp; omega) ?_; intro v3 w3 own3 hg3 hv3)
  have HG3 := Lib.hid (grown_then (grown_then HG2.out (grown_alloc w2 _ v.ownBlock) (.inl rfl)) hg3 HV2.out)
  have HV3 := Lib.hid (NewOr.two HV2.out (by have := HG2.out.size; simp; omega) hv3)
  have own3 : w3.ownsRow base 5 1 v3 (n + 3) _ := own3
  clear hg3 hv3
  rw [rounds_succ]
  go_wp2_with (at_builtin; refine wpList_append_byt rfl (.tmp 14) (.tmp 20) rfl base _ (n + 3) (xs ++ bys [N / 16777216] ++ bys [(N / 65536) % 256] ++ bys [(N / 256) % 256]) rfl (own3.alloc _) _ 1 [(N) % 256] rfl (byt1z (by first | rfl | (simp; done) | omega) (by omega) rfl) (by simp; omega) (by have := HG3.out.size; simp; omega) ?_; intro v4 w4 own4 hg4 hv4)
  have HG4 := Lib.hid (grown_then (grown_then HG3.out (grown_alloc w3 _ v.ownBlock) (.inl rfl)) hg4 HV3.out)
  have HV4 := Lib.hid (NewOr.two HV3.out (by have := HG3.out.size; simp; omega) hv4)
  have own4 : w4.ownsRow base 5 1 v4 (n + 4) _ := own4
  clear hg4 hv4
  rw [rounds_succ]
  go_wp2
  go_ret
  refine ⟨_, rfl, ?_, HG4.out, HV4.out⟩
  refine (congrArg (fun l => World.ownsRow _ base 5 1 _ _ l) ?_).mp own4
  simp [bys, num4]
  omega

theorem byt4z {w : World} {g a b c d : Nat} {x y z u : Int} (h1 : x = (a : Int)) (h2 : y = (b : Int)) (h3 : z = (c : Int)) (h4 : u = (d : Int)) (ha : a < 256) (hb : b < 256) (hc : c < 256) (hd : d < 256) (h : g = w.heap.size) :
    Byt (w.alloc (.cells #[.int .u8 x, .int .u8 y, .int .u8 z, .int .u8 u] 5)) (some ⟨g, 0, none⟩) [a, b, c, d] := by
  subst h h1 h2 h3 h4
  refine ⟨by simp; omega, fun _ => ⟨_, 0, rfl, fun i hi => ?_⟩⟩
  rw [cell_of_row _ _ _ _ 5 (0, 0) (heap_alloc_new w _)]
  simp at hi
  match i, hi with
  | 0, _ => rfl
  | 1, _ => rfl
  | 2, _ => rfl
  | 3, _ => rfl
def sealL (xs : List Nat) : List Nat := xs ++ low4 (sumOf xs)
set_option maxHeartbeats 2000000 in
theorem summed_any (base : Nat) (v : Value) (xs : List Nat) (w : World) (hx : ∀ x ∈ xs, x < 256) (hown : w.ownsRow base 5 1 v xs.length (bys xs)) (hb : base ≤ w.heap.size) (hn : xs.length ≤ 1000000) :
    Calls Tryz.prog 31 #[v] w fun e w' => ∃ v', e = .returned v' ∧ w'.ownsRow base 5 1 v' (sealL xs).length (bys (sealL xs)) ∧ w.grownBy w' v.ownBlock ∧ NewOr w v.ownBlock v'.ownBlock := by
  obtain ⟨A, c, rfl, hB, _⟩ := Byt.of_own hown hx
  have hs32 : sumOf xs < 4294967296 := by unfold sumOf; omega
  have HSUM := Lib.hid (sum_any A c xs w hB (by unfold maxLen; omega))
  have HE : Hid ((sealL xs).length = xs.length + 4 ∧ bys (sealL xs) = bys xs ++ bys (low4 (sumOf xs))) := ⟨by simp [sealL, low4], by simp [sealL, bys_app]⟩
  have HOWN := Lib.hid hown
  clear hB hown hx
  generalize sumOf xs = s at *
  go_enter Tryz.func31, Tryz.ntmps31
  go_wp2_with fail
  refine (HSUM.out).mono ?_
  rintro e w1 ⟨rfl, rfl⟩
  go_wp2_with (at_builtin; refine wpList_append_byt rfl (.tmp 6) (.tmp 18) rfl base _ xs.length (bys xs) rfl (HOWN.out.alloc _) _ 4 (low4 s) rfl (byt4z (by first | rfl | (simp; done) | (simp; omega) | omega) (by first | rfl | (simp; done) | (simp; omega) | omega) (by first | rfl | (simp; done) | (simp; omega) | omega) (by first | rfl | (simp; done) | (simp; omega) | omega) (by omega) (by omega) (by omega) (by omega) rfl) (by simp [low4]; omega) (by simp; omega) ?_; intro v1 w1 own1 hg1 hv1)
  have HG1 := Lib.hid (grown_then (grown_alloc w _ _) hg1 (.inl rfl))
  have HV1 := Lib.hid (NewOr.one (w := w) (by simp) hv1)
  have HO1 := Lib.hid own1
  clear hg1 hv1 own1
  go_ret
  refine ⟨_, rfl, ?_, HG1.out, HV1.out⟩
  rw [HE.out.1, HE.out.2]
  exact HO1.out

end Go.Proofs.YtnbhgeehlcjmdaaGreat
