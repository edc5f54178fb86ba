/- The sum of bytes: walks of crc's and of the reference's functions. -/
import Derived.Test.YtpfdgcdhcciilaaRows
import Derived.Test.YtpfdgcdhcciilaaF0
import Derived.WalkKit
import Derived.WalkSpells
import Derived.WalkLawsBesides
import Derived.Lib.Hide
namespace Go.Proofs.Ytpfdgcdhcciilaa
open Go.RowKit

theorem and1 (y : Nat) (h : y < 4294967296) : bits .and .u32 (y : Int) 1 = ((y % 2 : Nat) : Int) := by
  have := u32_and_nat y 1 h (by omega)
  rw [Nat.and_one_is_mod] at this
  exact this
theorem xorP (y : Nat) (h : y < 4294967296) : bits .xor .u32 ((y : Int) / 2) 3988292384 = ((y / 2 ^^^ 3988292384 : Nat) : Int) :=
  u32_xor_nat (y / 2) 3988292384 (by omega) (by omega)
theorem st_odd (y : Nat) (h : ((y : Int) % 2 == 1) = true) : st y = y / 2 ^^^ 3988292384 := by
  simp at h
  unfold st
  rw [if_pos (by omega)]
theorem st_even (y : Nat) (h : ((y : Int) % 2 == 1) = false) : st y = y / 2 := by
  simp at h
  unfold st
  rw [if_neg (by omega)]
theorem ret_u32 {a b : Int} (h : a = b) : Ending.returned (.int .u32 a) = .returned (.int .u32 b) := by rw [h]

set_option maxHeartbeats 400000 in
theorem step_any (y : Nat) (hy : y < 4294967296) (w : World) :
    Calls Try.prog 27 #[.int .u32 (y : Int)] w fun e w' => e = .returned (.int .u32 (st y : Nat)) ∧ w = w' := by
  cases h : ((y : Int) % 2 == 1)
  · go_enter Try.func27, Try.ntmps27
    go_wp2
    go_ret
    exact ⟨ret_u32 (by rw [st_even y h]; rfl), rfl⟩
  · go_enter Try.func27, Try.ntmps27
    go_wp2
    go_ret
    exact ⟨ret_u32 (by rw [st_odd y h]; exact xorP y hy), rfl⟩
theorem stN_round (k y : Nat) (h : k < 8) : stN (8 - k) y = stN (8 - (k + 1)) (st y) := by
  have : 8 - k = (8 - (k + 1)) + 1 := by omega
  rw [this, stN]

set_option maxHeartbeats 400000 in
theorem row_any (y : Nat) (hy : y < 4294967296) (w : World) :
    Calls Try.prog 28 #[.int .u32 (y : Int)] w fun e w' => e = .returned (.int .u32 (stN 8 y : Nat)) ∧ w = w' := by
  go_enter Try.func28, Try.ntmps28
  go_wp2
  go_loop [0, 4] (fun x i => ∃ k y' : Nat, k ≤ 8 ∧ i = .int .i64 k ∧ x = .int .u32 y' ∧ y' < 4294967296 ∧ stN (8 - k) y' = stN 8 y) (fun _ i => 8 - (intOf i).toNat)
  case atStart => exact ⟨0, y, by omega, rfl, rfl, hy, rfl⟩
  case round =>
    obtain ⟨k, y', hk, rfl, rfl, hy', he⟩ := hrel
    have HE := Lib.hid he
    clear he
    by_cases hlt : k < 8
    · have ha := and1 y' hy'
      cases h : ((y' : Int) % 2 == 1)
      · have h0 : (bits .and .u32 (y' : Int) 1 == 1) = false := by rw [ha]; simp at h ⊢; omega
        clear ha
        go_wp2
        refine ⟨⟨k + 1, st y', by omega, by go_num, by rw [st_even y' h]; rfl, st_lt y' hy', ?_⟩, by simp [intOf]; omega⟩
        rw [← stN_round k y' hlt, HE.out]
      · have h0 : (bits .and .u32 (y' : Int) 1 == 1) = true := by rw [ha]; simp at h ⊢; omega
        clear ha
        go_wp2
        refine ⟨⟨k + 1, st y', by omega, by go_num, by rw [st_odd y' h, xorP y' hy'], st_lt y' hy', ?_⟩, by simp [intOf]; omega⟩
        rw [← stN_round k y' hlt, HE.out]
    · obtain rfl : k = 8 := by omega
      go_wp2
      go_ret
      exact ⟨ret_u32 (by rw [← HE.out]; rfl), rfl⟩

/-- bytes as a slice holds them: where there are any, from a cell on, one to a cell -/
def Byt (w : World) (A : Option Addr) (xs : List Nat) : Prop :=
  (∀ x ∈ xs, x < 256) ∧ (0 < xs.length → ∃ b off, A = some ⟨b, off, none⟩ ∧ ∀ i, i < xs.length → w.cell? ⟨b, off + i, none⟩ = some (.int .u8 ((xs.getD i 0 : Nat) : Int)))
theorem Byt.below {w w' : World} {A : Option Addr} {xs : List Nat} (h : Byt w A xs) (hb : Below w.heap.size w w') : Byt w' A xs := by
  refine ⟨h.1, fun h0 => ?_⟩
  obtain ⟨b, off, e, hc⟩ := h.2 h0
  refine ⟨b, off, e, fun i hi => ?_⟩
  have := hc i hi
  exact (hb.cell (World.block_lt_of_cell? _ _ this)).trans this
theorem getD_at {α : Type} (l : List α) (k : Nat) (d : α) (h : k < l.length) : l.getD k d = l[k] := by simp [List.getD, List.getElem?_eq_getElem h]
theorem Byt.lt {w : World} {A : Option Addr} {xs : List Nat} (h : Byt w A xs) (i : Nat) : xs.getD i 0 < 256 := by
  by_cases hi : i < xs.length
  · rw [getD_at _ _ _ hi]
    exact h.1 _ (List.getElem_mem hi)
  · have : xs.getD i 0 = 0 := by simp [List.getD, List.getElem?_eq_none (show xs.length ≤ i by omega)]
    omega
theorem take_snoc {α : Type} (l : List α) (d : α) (k : Nat) (h : k < l.length) : l.take (k + 1) = l.take k ++ [l.getD k d] := by
  rw [List.take_succ_eq_append_getElem h, getD_at _ _ _ h]

theorem not32 (y : Nat) (h : y < 4294967296) : 4294967295 ^^^ y = 4294967295 - y := by
  have e : (BitVec.allOnes 32 ^^^ BitVec.ofNat 32 y).toNat = (~~~ BitVec.ofNat 32 y).toNat := by rw [BitVec.allOnes_xor]
  rw [BitVec.toNat_xor, BitVec.toNat_not, BitVec.toNat_allOnes, BitVec.toNat_ofNat, Nat.mod_eq_of_lt (by omega)] at e
  omega
theorem compl32 (y : Nat) (h : y < 4294967296) : bits .xor .u32 IntKind.u32.max (y : Int) = ((4294967295 - y : Nat) : Int) := by
  have e : IntKind.u32.max = ((4294967295 : Nat) : Int) := by decide
  rw [e, u32_xor_nat _ _ (by omega) h, not32 y h]
theorem and255 (y : Nat) (h : y < 4294967296) : bits .and .u32 (y : Int) 255 = ((y % 256 : Nat) : Int) := by
  have := u32_and_nat y 255 h (by omega)
  rw [show y &&& 255 = y % 256 from Nat.and_two_pow_sub_one_eq_mod y 8] at this
  exact this

set_option maxHeartbeats 400000 in
theorem update_any (A : Option Addr) (c : Nat) (xs : List Nat) (w : World) (hB : Byt w A xs) (hl : xs.length ≤ maxLen) :
    Calls Try.prog 26 #[.int .u32 0, .slice A xs.length c] w fun e w' => e = .returned (.int .u32 (sumOf xs : Nat)) ∧ w = w' := by
  unfold maxLen at hl
  have h0 : bits BinOp.xor IntKind.u32 IntKind.u32.max 0 = 4294967295 := by decide
  go_enter Try.func26, Try.ntmps26
  go_wp2
  clear h0
  go_loop [5, 12] (fun x i => ∃ k : Nat, k ≤ xs.length ∧ i = .int .i64 k ∧ x = .int .u32 (updAll 4294967295 (xs.take k) : Nat)) (fun _ i => xs.length - (intOf i).toNat)
  case atStart => exact ⟨0, by omega, rfl, by rw [List.take_zero, updAll_nil]; rfl⟩
  case round =>
    obtain ⟨k, hk, rfl, rfl⟩ := hrel
    by_cases hlt : k < xs.length
    · obtain ⟨b, off, rfl, hc⟩ := hB.2 (by omega)
      have c0 := hc k hlt
      have x0 := hB.lt k
      have y0 := updAll_lt (xs.take k) 4294967295 (by omega) (fun c hc => hB.1 c (List.mem_of_mem_take hc))
      have S : updAll 4294967295 (xs.take (k + 1)) = upd (updAll 4294967295 (xs.take k)) (xs.getD k 0) := by
        rw [take_snoc xs 0 k hlt, updAll_append]; rfl
      have HS := Lib.hid S
      clear S hc
      generalize xs.getD k 0 = v at *
      generalize updAll 4294967295 (xs.take k) = y at *
      have e1 := and255 y y0
      have l1 : y % 256 ^^^ v < 4294967296 := Nat.xor_lt_two_pow (n := 32) (by omega) (by omega)
      have R : Calls Try.prog 28 #[.int .u32 (bits .xor .u32 ((y : Int) % 256) (v : Int))] w fun e w' => e = .returned (.int .u32 (stN 8 (y % 256 ^^^ v) : Nat)) ∧ w = w' := by
        have e2 : bits .xor .u32 ((y : Int) % 256) (v : Int) = ((y % 256 ^^^ v : Nat) : Int) := u32_xor_nat (y % 256) v (by omega) (by omega)
        rw [e2]
        exact row_any _ l1 w
      have l2 := stN_lt 8 _ l1
      have e3 : Hid (bits .xor .u32 ((y : Int) / 256) ((stN 8 (y % 256 ^^^ v) : Nat) : Int) = ((upd y v : Nat) : Int)) := by
        show bits .xor .u32 ((y : Int) / 256) ((stN 8 (y % 256 ^^^ v) : Nat) : Int) = ((upd y v : Nat) : Int)
        rw [upd_eq]
        exact u32_xor_nat (y / 256) _ (by omega) l2
      clear l1 l2
      have R := Lib.hid R
      go_wp2_with fail
      refine (Hid.out R).mono ?_
      rintro e w' ⟨rfl, rfl⟩
      generalize stN 8 (y % 256 ^^^ v) = z at *
      go_wp2
      refine ⟨⟨k + 1, by omega, by go_num, ?_⟩, by simp [intOf]; omega⟩
      rw [e3.out, HS.out]
    · obtain rfl : k = xs.length := by omega
      have y0 := updAll_lt xs 4294967295 (by omega) hB.1
      have e0 : sumOf xs = 4294967295 - updAll 4294967295 xs := rfl
      have e1 := compl32 _ y0
      rw [List.take_length]
      have E0 := Lib.hid e0
      have E1 := Lib.hid e1
      clear e0 e1
      go_wp2
      go_ret
      exact ⟨ret_u32 (by rw [E0.out]; exact E1.out), rfl⟩
end Go.Proofs.Ytpfdgcdhcciilaa
