/- Sums, numbers of bytes, rows of bytes held against one another: walks. -/
import Derived.Test.YtpfdgcdhcciilaaF1
import Derived.Deep.QuietTactic
import Derived.BigQuiet
namespace Go.Proofs.Ytpfdgcdhcciilaa
open Go.RowKit

set_option maxHeartbeats 400000 in
theorem sum_any (A : Option Addr) (c : Nat) (xs : List Nat) (w : World) (hB : Byt w A xs) (hl : xs.length ≤ maxLen) :
    Calls Try.prog 19 #[.slice A xs.length c] w fun e w' => e = .returned (.int .u32 (sumOf xs : Nat)) ∧ w = w' := by
  have U := update_any A c xs w hB hl
  have U := Lib.hid U
  go_enter Try.func19, Try.ntmps19
  go_wp2_with fail
  refine (Hid.out U).mono ?_
  rintro e w' ⟨rfl, rfl⟩
  go_wp2
  go_ret
  exact ⟨rfl, rfl⟩

set_option maxHeartbeats 400000 in
theorem refSum_any (A : Option Addr) (c : Nat) (xs : List Nat) (w : World) (hB : Byt w A xs) (hl : xs.length ≤ maxLen) :
    Calls Try.prog 24 #[.slice A xs.length c] w fun e w' => e = .returned (.int .u32 (sumOf xs : Nat)) ∧ w = w' := by
  unfold maxLen at hl
  go_enter Try.func24, Try.ntmps24
  go_wp2
  go_loop [3, 4] (fun x i => ∃ k : Nat, k ≤ xs.length ∧ i = .int .i64 k ∧ x = .int .u32 (updAll 4294967295 (xs.take k) : Nat)) (fun _ i => xs.length - (intOf i).toNat)
  case atStart => exact ⟨0, by omega, rfl, by rw [List.take_zero, updAll_nil]; rfl⟩
  case round =>
    obtain ⟨k, hk, rfl, rfl⟩ := hrel
    by_cases hlt : k < xs.length
    · obtain ⟨b, off, rfl, hc⟩ := hB.2 (by omega)
      have c0 := hc k hlt
      have x0 := hB.lt k
      have y0 := updAll_lt (xs.take k) 4294967295 (by omega) (fun c hc => hB.1 c (List.mem_of_mem_take hc))
      have S : updAll 4294967295 (xs.take (k + 1)) = upd (updAll 4294967295 (xs.take k)) (xs.getD k 0) := by
        rw [take_snoc xs 0 k hlt, updAll_append]; rfl
      have HS := Lib.hid S
      clear S hc
      generalize xs.getD k 0 = v at *
      generalize updAll 4294967295 (xs.take k) = y at *
      have e1 : bits .xor .u32 (y : Int) (v : Int) = ((y ^^^ v : Nat) : Int) := u32_xor_nat y v y0 (by omega)
      have l1 : y ^^^ v < 4294967296 := Nat.xor_lt_two_pow (n := 32) (by omega) (by omega)
      have U : upd y v = stN 8 (y ^^^ v) := rfl
      have HU := Lib.hid U
      clear U
      generalize hz : y ^^^ v = z at *
      clear hz
      go_wp2
      go_loop [3, 5] (fun x i => ∃ j z' : Nat, j ≤ 8 ∧ i = .int .i64 j ∧ x = .int .u32 z' ∧ z' < 4294967296 ∧ stN (8 - j) z' = stN 8 z) (fun _ i => 8 - (intOf i).toNat)
      case atStart => exact ⟨0, z, by omega, rfl, rfl, l1, rfl⟩
      case round =>
      obtain ⟨j, z', hj, rfl, rfl, hz', he⟩ := hrel
      have HE := Lib.hid he
      clear he e1
      by_cases hj8 : j < 8
      · go_wp2_with fail
        refine (step_any _ hz' _).mono ?_
        rintro e w' ⟨rfl, rfl⟩
        have l2 := st_lt z' hz'
        have HR := Lib.hid (stN_round j z' hj8)
        generalize st z' = t at *
        go_wp2
        refine ⟨⟨j + 1, t, by omega, by go_num, rfl, l2, ?_⟩, by simp [intOf]; omega⟩
        rw [← HR.out, HE.out]
      · obtain rfl : j = 8 := by omega
        go_wp2
        refine ⟨⟨k + 1, by omega, by go_num, ?_⟩, by simp [intOf]; omega⟩
        rw [HS.out, HU.out, ← HE.out]
        rfl
    · obtain rfl : k = xs.length := by omega
      have y0 := updAll_lt xs 4294967295 (by omega) hB.1
      have e0 : sumOf xs = 4294967295 - updAll 4294967295 xs := rfl
      rw [List.take_length]
      have E0 := Lib.hid e0
      clear e0
      go_wp2
      go_ret
      exact ⟨ret_u32 (by rw [E0.out]; omega), rfl⟩

def valOf (xs : List Nat) : Nat := xs.foldl (fun n x => 256 * n + x) 0
theorem valOf_snoc (xs : List Nat) (x : Nat) : valOf (xs ++ [x]) = 256 * valOf xs + x := by simp [valOf, List.foldl_append]
theorem valOf_lt (xs : List Nat) (h : ∀ x ∈ xs, x < 256) : ∀ k, valOf (xs.take k) < 256 ^ k := by
  intro k
  induction k with
  | zero => simp [valOf]
  | succ k ih =>
    by_cases hk : k < xs.length
    · rw [take_snoc xs 0 k hk, valOf_snoc, getD_at _ _ _ hk]
      have := h _ (List.getElem_mem hk)
      rw [Nat.pow_succ]
      omega
    · rw [List.take_of_length_le (by omega)]
      rw [List.take_of_length_le (by omega)] at ih
      rw [Nat.pow_succ]
      omega
theorem valOf_small (xs : List Nat) (h : ∀ x ∈ xs, x < 256) (k : Nat) (hk : k ≤ 4) : valOf (xs.take k) < 4294967296 := by
  have := valOf_lt xs h k
  have h2 : 256 ^ k ≤ 256 ^ 4 := Nat.pow_le_pow_right (by decide) hk
  have h3 : (256 : Nat) ^ 4 = 4294967296 := by decide
  omega

set_option maxHeartbeats 400000 in
theorem told_any (A : Option Addr) (c : Nat) (xs : List Nat) (w : World) (hB : Byt w A xs) (hl : xs.length ≤ 4) :
    Calls Try.prog 25 #[.slice A xs.length c] w fun e w' => e = .returned (.int .i64 (valOf xs : Nat)) ∧ w = w' := by
  go_enter Try.func25, Try.ntmps25
  go_wp2
  go_loop [3, 4] (fun x i => ∃ k : Nat, k ≤ xs.length ∧ i = .int .i64 k ∧ x = .int .i64 (valOf (xs.take k) : Nat)) (fun _ i => xs.length - (intOf i).toNat)
  case atStart => exact ⟨0, by omega, rfl, by rw [List.take_zero]; rfl⟩
  case round =>
    obtain ⟨k, hk, rfl, rfl⟩ := hrel
    by_cases hlt : k < xs.length
    · obtain ⟨b, off, rfl, hc⟩ := hB.2 (by omega)
      have c0 := hc k hlt
      have x0 := hB.lt k
      have y0 := valOf_small xs hB.1 k (by omega)
      have HS : Hid (valOf (xs.take (k + 1)) = 256 * valOf (xs.take k) + xs.getD k 0) := by
        show valOf (xs.take (k + 1)) = 256 * valOf (xs.take k) + xs.getD k 0
        rw [take_snoc xs 0 k hlt, valOf_snoc]
      clear hc
      generalize xs.getD k 0 = v at *
      generalize valOf (xs.take k) = y at *
      go_wp2
      refine ⟨⟨k + 1, by omega, by go_num, ?_⟩, by simp [intOf]; omega⟩
      rw [HS.out]
      go_num
    · obtain rfl : k = xs.length := by omega
      rw [List.take_length]
      go_wp2
      go_ret
      exact ⟨rfl, rfl⟩

theorem or8 (y v : Nat) (hy : y < 4294967296) (hv : v < 256) : bits .or .i64 ((y : Int) * 256) (v : Int) = ((y * 256 + v : Nat) : Int) := by
  have hw : ∀ n : Int, 0 ≤ n → n < 2 ^ 62 → IntKind.i64.wrap n = n := fun n h0 h1 => by rw [IntKind.wrap_i64]; omega
  have := bits_join .i64 62 (by decide) hw 8 (x := (y : Int) * 256) (y := (v : Int)) (by omega) (by omega) (by omega) (by omega) (by omega) (by omega)
  rw [this]
  omega

set_option maxHeartbeats 400000 in
theorem value_any (A : Option Addr) (c : Nat) (xs : List Nat) (w : World) (hB : Byt w A xs) (hl : xs.length ≤ 4) :
    Calls Try.prog 21 #[.slice A xs.length c] w fun e w' => e = .returned (.int .i64 (valOf xs : Nat)) ∧ w = w' := by
  go_enter Try.func21, Try.ntmps21
  go_wp2
  go_loop [3, 8] (fun x i => ∃ k : Nat, k ≤ xs.length ∧ i = .int .i64 k ∧ x = .int .i64 (valOf (xs.take k) : Nat)) (fun _ i => xs.length - (intOf i).toNat)
  case atStart => exact ⟨0, by omega, rfl, by rw [List.take_zero]; rfl⟩
  case round =>
    obtain ⟨k, hk, rfl, rfl⟩ := hrel
    by_cases hlt : k < xs.length
    · obtain ⟨b, off, rfl, hc⟩ := hB.2 (by omega)
      have c0 := hc k hlt
      have x0 := hB.lt k
      have y0 := valOf_small xs hB.1 k (by omega)
      have HS : Hid (valOf (xs.take (k + 1)) = 256 * valOf (xs.take k) + xs.getD k 0) := by
        show valOf (xs.take (k + 1)) = 256 * valOf (xs.take k) + xs.getD k 0
        rw [take_snoc xs 0 k hlt, valOf_snoc]
      clear hc
      generalize xs.getD k 0 = v at *
      generalize valOf (xs.take k) = y at *
      go_wp2
      refine ⟨⟨k + 1, by omega, by go_num, ?_⟩, by simp [intOf]; omega⟩
      rw [HS.out, or8 y v y0 x0, Nat.mul_comm]
    · obtain rfl : k = xs.length := by omega
      rw [List.take_length]
      go_wp2
      go_ret
      exact ⟨rfl, rfl⟩

theorem drop_cons_of {α : Type} (l : List α) (d : α) (k : Nat) (h : k < l.length) : l.drop k = l.getD k d :: l.drop (k + 1) := by
  rw [getD_at _ _ _ h, List.drop_eq_getElem_cons h]
def sameB (xs ys : List Nat) : Bool := decide (xs = ys)
set_option maxHeartbeats 400000 in
theorem bytes_any (A B : Option Addr) (c d : Nat) (xs ys : List Nat) (w : World) (hA : Byt w A xs) (hB : Byt w B ys) (hl : xs.length ≤ maxLen) :
    Calls Try.prog 13 #[.slice A xs.length c, .slice B ys.length d] w fun e w' => e = .returned (.bool (sameB xs ys)) ∧ ∃ n, w' = w.drewN n := by
  unfold maxLen at hl
  by_cases hlen : xs.length = ys.length
  · have hL : ((xs.length : Int) != (ys.length : Int)) = false := by simp [hlen]
    have HL := Lib.hid hlen
    have hl1 : xs.length ≤ ys.length := by omega
    have hl2 : ys.length ≤ xs.length := by omega
    clear hlen
    go_enter Try.func13, Try.ntmps13
    go_wp2
    clear hL
    go_loopw [5] (fun i wr => ∃ k n : Nat, wr = w.drewN n ∧ k ≤ xs.length ∧ i = .int .i64 k ∧ xs.take k = ys.take k) (fun i _ => xs.length - (intOf i).toNat)
    case atStart => exact ⟨0, 0, rfl, by omega, rfl, rfl⟩
    case round =>
      obtain ⟨k, n, rfl, hk, rfl, he⟩ := hrel
      have HE := Lib.hid he
      clear he
      by_cases hlt : k < xs.length
      · obtain ⟨b, off, rfl, hc⟩ := hA.2 (by omega)
        obtain ⟨b', off', rfl, hc'⟩ := hB.2 (by omega)
        have c0 := hc k hlt
        have c1 := hc' k (by omega)
        have S1 := Lib.hid (take_snoc xs 0 k hlt)
        have S2 := Lib.hid (take_snoc ys 0 k (by omega))
        have i1 : (0 : Int) ≤ (k : Int) := by omega
        have i2 : (k : Int) < (xs.length : Int) := by omega
        have i3 : (k : Int) < (ys.length : Int) := by omega
        clear hc hc'
        generalize xs.getD k 0 = x at *
        generalize ys.getD k 0 = y at *
        cases hxy : ((x : Int) != (y : Int))
        · go_wp2
          go_quiet (fail)
          go_wp2
          refine ⟨⟨k + 1, _, rfl, by omega, by go_num, ?_⟩, by simp [intOf]; omega⟩
          have hxy2 : (x : Int) = (y : Int) := by simpa using hxy
          rw [S1.out, S2.out, HE.out, show x = y by omega]
        · have hne : Hid (sameB xs ys = false) := by
            show sameB xs ys = false
            unfold sameB
            rw [decide_eq_false_iff_not]
            intro e
            have := S1.out
            rw [e, S2.out] at this
            have := List.append_inj_right' this rfl
            simp at this hxy
            omega
          go_wp2
          go_quiet (fail)
          go_wp2
          go_ret
          exact ⟨by rw [hne.out]; rfl, n + nq, by first | rfl | rw [World.drewN_drewN]⟩
      · obtain rfl : k = xs.length := by omega
        have hy : Hid (sameB xs ys = true) := by
          show sameB xs ys = true
          unfold sameB
          rw [decide_eq_true_iff]
          have := HE.out
          rwa [List.take_length, List.take_of_length_le (by omega)] at this
        go_wp2
        go_ret
        exact ⟨by rw [hy.out]; rfl, _, rfl⟩
  · have hL : ((xs.length : Int) != (ys.length : Int)) = true := by simp; omega
    have hne : Hid (sameB xs ys = false) := by
      show sameB xs ys = false
      unfold sameB
      rw [decide_eq_false_iff_not]
      intro e
      exact hlen (by rw [e])
    clear hlen
    go_enter Try.func13, Try.ntmps13
    go_wp2
    go_ret
    exact ⟨by rw [hne.out]; rfl, 0, rfl⟩
end Go.Proofs.Ytpfdgcdhcciilaa
