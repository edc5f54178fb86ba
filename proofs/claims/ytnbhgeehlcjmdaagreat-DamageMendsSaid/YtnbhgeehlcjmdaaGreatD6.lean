/- What the first head of a box tells: walk of box.first. -/
import Derived.Test.YtnbhgeehlcjmdaaGreatD4
namespace Go.Proofs.YtnbhgeehlcjmdaaGreat
open Go.RowKit

def HeadPost (o : Option (List Nat × Int)) (w : World) (e : Ending) (w' : World) : Prop :=
  Below w.heap.size w w' ∧ match o with
  | none => e = .returned (.tuple #[.slice none 0 0, .int .i64 0, .bool false])
  | some (t, at') => ∃ P c, e = .returned (.tuple #[.slice P t.length c, .int .i64 at', .bool true]) ∧ Byt w' P t ∧ t.length ≤ c
def headN (xs : List Nat) : Nat := valOf ((xs.drop 4).take 2)
def firstL (xs : List Nat) : Option (List Nat × Int) :=
  if isHead (xs.take 10) = true ∧ 14 + 9 * headN (xs.take 10) ≤ xs.length ∧ rightB ((xs.drop 10).take (4 + 9 * headN (xs.take 10))) = true then
    some ((xs.drop 10).take (4 + 9 * headN (xs.take 10)), ((18 + 9 * headN (xs.take 10) : Nat) : Int)) else none
theorem headN_lt {w : World} {A : Option Addr} {xs : List Nat} (h : Byt w A xs) : headN xs < 65536 := by
  have h1 := ((valOf_lt ((xs.drop 4).take 2) (fun x hx => h.1 x (List.mem_of_mem_drop (List.mem_of_mem_take hx)))) 2)
  unfold headN
  rw [List.take_of_length_le (by simp; omega)] at h1
  exact h1
set_option maxRecDepth 100000 in
set_option maxHeartbeats 2000000 in
theorem first_short (A : Option Addr) (c n : Nat) (xs : List Nat) (w : World) (hn : xs.length = n) (hc : n ≤ c) (hl : n < 10) :
    Calls Tryz.prog 16 #[.slice A n c] w (HeadPost (firstL xs) w) := by
  have hnone : firstL xs = none := by
    unfold firstL
    rw [if_neg]
    rintro ⟨h1, _⟩
    unfold isHead at h1
    simp at h1
    omega
  rw [hnone]
  have hm1 : decide ((10 : Int) < (n : Int)) = false := by rw [decide_eq_false_iff_not]; omega
  have hm2 : decide ((n : Int) < 10) = true := by rw [decide_eq_true_iff]; omega
  clear hnone hn
  go_enter Tryz.func16, Tryz.ntmps16
  go_wp2_with fail
  refine (count_no A c n w (by omega)).mono ?_
  rintro e w1 ⟨rfl, rfl⟩
  go_wp2
  go_ret3
  exact ⟨Below.refl _ _, rfl⟩
theorem firstL_ten {xs : List Nat} (hn : xs.length = 10) : firstL xs = none := by
  unfold firstL
  rw [if_neg]
  rintro ⟨_, h, _⟩
  omega
set_option maxRecDepth 100000 in
set_option maxHeartbeats 4000000 in
theorem first_ten (A : Option Addr) (c : Nat) (xs : List Nat) (w : World) (hB : Byt w A xs) (hn : xs.length = 10) (hc : 10 ≤ c) :
    Calls Tryz.prog 16 #[.slice A 10 c] w (HeadPost (firstL xs) w) := by
  obtain ⟨b, off, rfl, _⟩ := hB.2 (by omega)
  have HC := Lib.hid (count_ten (some ⟨b, off, none⟩) c xs w hB hn (by omega))
  have hN := headN_lt hB
  change Hid (Calls Tryz.prog 35 _ w fun e w' => e = .returned (.tuple #[.int .i64 ((if isHead xs then headN xs else 0 : Nat) : Int), .bool (isHead xs)]) ∧ Below w.heap.size w w') at HC
  rw [firstL_ten hn]
  generalize headN xs = N at *
  generalize isHead xs = hd at *
  clear hB hn
  cases hd
  · simp only [Bool.false_eq_true, if_false] at HC
    go_enter Tryz.func16, Tryz.ntmps16
    go_wp2_with fail
    refine (HC.out).mono ?_
    rintro e w1 ⟨rfl, hb1⟩
    go_wp2
    go_ret3
    exact ⟨hb1, rfl⟩
  · simp only [if_true] at HC
    go_enter Tryz.func16, Tryz.ntmps16
    go_wp2_with fail
    refine (HC.out).mono ?_
    rintro e w1 ⟨rfl, hb1⟩
    go_wp2
    go_ret3
    exact ⟨hb1, rfl⟩
set_option maxRecDepth 100000 in
set_option maxHeartbeats 4000000 in
theorem first_more (A : Option Addr) (c n : Nat) (xs : List Nat) (w : World) (hB : Byt w A xs) (hn : xs.length = n) (hc : n ≤ c) (hl : 10 < n) (hu : n ≤ 60000) :
    Calls Tryz.prog 16 #[.slice A n c] w (HeadPost (firstL xs) w) := by
  obtain ⟨b, off, rfl, _⟩ := hB.2 (by omega)
  have hB10 := hB.take 10
  have h10 : (xs.take 10).length = 10 := by simp; omega
  have HC := Lib.hid (count_ten (some ⟨b, off, none⟩) c (xs.take 10) w hB10 h10 (by omega))
  have hN := headN_lt hB10
  have HF : Hid (firstL xs = if isHead (xs.take 10) = true ∧ 14 + 9 * headN (xs.take 10) ≤ n ∧ rightB ((xs.drop 10).take (4 + 9 * headN (xs.take 10))) = true then
    some ((xs.drop 10).take (4 + 9 * headN (xs.take 10)), ((18 + 9 * headN (xs.take 10) : Nat) : Int)) else none) := by
    show _ = _
    unfold firstL
    rw [hn]
  change Hid (Calls Tryz.prog 35 _ w fun e w' => e = .returned (.tuple #[.int .i64 ((if isHead (xs.take 10) then headN (xs.take 10) else 0 : Nat) : Int), .bool (isHead (xs.take 10))]) ∧ Below w.heap.size w w') at HC
  generalize headN (xs.take 10) = N at *
  generalize isHead (xs.take 10) = hd at *
  have HB := Lib.hid hB
  have HN := Lib.hid hn
  clear hB10 h10 hB hn
  cases hd
  · have hf : firstL xs = none := by rw [HF.out, if_neg]; rintro ⟨h, _⟩; cases h
    rw [hf]
    clear hf
    simp only [Bool.false_eq_true, if_false] at HC
    go_enter Tryz.func16, Tryz.ntmps16
    go_wp2_with fail
    refine (HC.out).mono ?_
    rintro e w1 ⟨rfl, hb1⟩
    go_wp2
    go_ret3
    exact ⟨hb1, rfl⟩
  · simp only [if_true] at HC
    rcases Nat.lt_or_ge n (14 + 9 * N) with hE | hE
    · have hf : firstL xs = none := by rw [HF.out, if_neg]; rintro ⟨_, h, _⟩; omega
      rw [hf]
      clear hf
      go_enter Tryz.func16, Tryz.ntmps16
      go_wp2_with fail
      refine (HC.out).mono ?_
      rintro e w1 ⟨rfl, hb1⟩
      go_wp2
      go_ret3
      exact ⟨hb1, rfl⟩
    · obtain ⟨m, rfl⟩ : ∃ m, c = 14 + 9 * N + m := ⟨c - (14 + 9 * N), by omega⟩
      have hbt : Byt w (some ⟨b, off + 10, none⟩) ((xs.drop 10).take (4 + 9 * N)) := by
        have := (HB.out.drop 10 (14 + 9 * N + m) (by rw [HN.out]; omega) (by rw [HN.out]; omega)).take (4 + 9 * N)
        rw [if_neg (by omega)] at this
        simpa [add_at] using this
      have HT := Lib.hid hbt
      have HTL : Hid (((xs.drop 10).take (4 + 9 * N)).length = 4 + 9 * N) := by
        show _ = _
        simp [HN.out]; omega
      clear hbt
      generalize (xs.drop 10).take (4 + 9 * N) = t at *
      go_enter Tryz.func16, Tryz.ntmps16
      go_wp2_with fail
      refine (HC.out).mono ?_
      rintro e w1 ⟨rfl, hb1⟩
      go_wp2_with fail
      refine (right_n _ _ _ t w1 (HT.out.below hb1) (by rw [HTL.out]; omega) (by omega) (by omega)).mono ?_
      rintro e w2 ⟨rfl, hb2⟩
      have HB2 := Lib.hid (below_then hb1 hb2)
      have HT2 := Lib.hid ((HT.out.below hb1).below hb2)
      clear hb1 hb2
      generalize rightB t = rt at *
      cases rt
      · have hf : firstL xs = none := by rw [HF.out, if_neg]; rintro ⟨_, _, h⟩; cases h
        have hf := Lib.hid hf
        go_wp2
        go_ret3
        refine ⟨HB2.out, ?_⟩
        rw [hf.out]
        rfl
      · have hf : firstL xs = some (t, ((18 + 9 * N : Nat) : Int)) := by rw [HF.out, if_pos ⟨trivial, hE, rfl⟩]
        have hf := Lib.hid hf
        go_wp2
        go_ret3
        have e1 : t.length = 10 + 9 * N + 4 - 10 := by rw [HTL.out]; omega
        have e2 : ((18 + 9 * N : Nat) : Int) = 10 + 9 * (N : Int) + 4 + 4 := by omega
        refine ⟨HB2.out, ?_⟩
        rw [hf.out]
        refine ⟨some ⟨b, off + 10, none⟩, 14 + 9 * N + m - 10, ?_, HT2.out, ?_⟩
        · rw [e1, e2]
          rfl
        · rw [e1]; omega
theorem first_n (A : Option Addr) (c n : Nat) (xs : List Nat) (w : World) (hB : Byt w A xs) (hn : xs.length = n) (hc : n ≤ c) (hu : n ≤ 60000) :
    Calls Tryz.prog 16 #[.slice A n c] w (HeadPost (firstL xs) w) := by
  rcases Nat.lt_trichotomy n 10 with h | h | h
  · exact first_short A c n xs w hn hc h
  · subst h; exact first_ten A c xs w hB hn hc
  · exact first_more A c n xs w hB hn hc h hu
end Go.Proofs.YtnbhgeehlcjmdaaGreat
/-! What the second head of a box tells: walk of box.second. -/
namespace Go.Proofs.YtnbhgeehlcjmdaaGreat
open Go.RowKit

def rowN (t : List Nat) (i : Nat) : Nat := valOf ((t.drop (9 * i + 1)).take 4)
def rowSum (t : List Nat) : Nat → Nat
  | 0 => 0
  | k + 1 => rowSum t k + rowN t k
def secondL (xs : List Nat) : Option (List Nat × Int) :=
  if isHead (xs.drop (xs.length - 10)) = true ∧ 14 + 9 * headN (xs.drop (xs.length - 10)) ≤ xs.length ∧ rightB ((xs.drop (xs.length - 14 - 9 * headN (xs.drop (xs.length - 10)))).take (4 + 9 * headN (xs.drop (xs.length - 10)))) = true then
    some ((xs.drop (xs.length - 14 - 9 * headN (xs.drop (xs.length - 10)))).take (4 + 9 * headN (xs.drop (xs.length - 10))),
      ((xs.length - 14 - 9 * headN (xs.drop (xs.length - 10)) : Nat) : Int) - 4 - (rowSum ((xs.drop (xs.length - 14 - 9 * headN (xs.drop (xs.length - 10)))).take (4 + 9 * headN (xs.drop (xs.length - 10)))) (headN (xs.drop (xs.length - 10))) : Nat)) else none
theorem rowN_lt {w : World} {A : Option Addr} {t : List Nat} (h : Byt w A t) (i : Nat) : rowN t i < 4294967296 := by
  have h1 := ((valOf_lt ((t.drop (9 * i + 1)).take 4) (fun x hx => h.1 x (List.mem_of_mem_drop (List.mem_of_mem_take hx)))) 4)
  unfold rowN
  rw [List.take_of_length_le (by simp; omega)] at h1
  exact h1
theorem rowSum_le {w : World} {A : Option Addr} {t : List Nat} (h : Byt w A t) : ∀ k, rowSum t k ≤ k * 4294967296
  | 0 => by simp [rowSum]
  | k + 1 => by
    have := rowN_lt h k
    have := rowSum_le h k
    simp only [rowSum]
    omega
set_option maxRecDepth 100000 in
set_option maxHeartbeats 2000000 in
theorem second_short (A : Option Addr) (c n : Nat) (xs : List Nat) (w : World) (hn : xs.length = n) (hl : n < 10) :
    Calls Tryz.prog 17 #[.slice A n c] w (HeadPost (secondL xs) w) := by
  have hnone : secondL xs = none := by
    unfold secondL
    rw [if_neg]
    rintro ⟨h1, _⟩
    unfold isHead at h1
    simp at h1
    omega
  have hm2 : decide ((n : Int) < 10) = true := by rw [decide_eq_true_iff]; omega
  rw [hnone]
  clear hnone hn
  go_enter Tryz.func17, Tryz.ntmps17
  go_wp2_with fail
  refine (count_no _ c n w (by omega)).mono ?_
  rintro e w1 ⟨rfl, rfl⟩
  go_wp2
  go_ret3
  exact ⟨Below.refl _ _, rfl⟩
set_option maxRecDepth 100000 in
set_option maxHeartbeats 4000000 in
theorem second_long (A : Option Addr) (c d : Nat) (xs : List Nat) (w : World) (hB : Byt w A xs) (hn : xs.length = d + 10) (hc : d + 10 ≤ c) (hu : d ≤ 60000) :
    Calls Tryz.prog 17 #[.slice A (d + 10) c] w (HeadPost (secondL xs) w) := by
  obtain ⟨b, off, rfl, _⟩ := hB.2 (by omega)
  have hB10 : Byt w (some ⟨b, off + d, none⟩) (xs.drop d) := by
    have := hB.drop d c (by omega) (by omega)
    rw [if_neg (by omega)] at this
    simpa [add_at] using this
  have h10 : (xs.drop d).length = 10 := by simp; omega
  have HC := Lib.hid (count_ten (some ⟨b, off + d, none⟩) (c - d) (xs.drop d) w hB10 h10 (by omega))
  have hN := headN_lt hB10
  have HF : Hid (secondL xs = if isHead (xs.drop d) = true ∧ 14 + 9 * headN (xs.drop d) ≤ d + 10 ∧ rightB ((xs.drop (d + 10 - 14 - 9 * headN (xs.drop d))).take (4 + 9 * headN (xs.drop d))) = true then
    some ((xs.drop (d + 10 - 14 - 9 * headN (xs.drop d))).take (4 + 9 * headN (xs.drop d)), ((d + 10 - 14 - 9 * headN (xs.drop d) : Nat) : Int) - 4 - (rowSum ((xs.drop (d + 10 - 14 - 9 * headN (xs.drop d))).take (4 + 9 * headN (xs.drop d))) (headN (xs.drop d)) : Nat)) else none) := by
    show _ = _
    unfold secondL
    rw [hn, Nat.add_sub_cancel]
  change Hid (Calls Tryz.prog 35 _ w fun e w' => e = .returned (.tuple #[.int .i64 ((if isHead (xs.drop d) then headN (xs.drop d) else 0 : Nat) : Int), .bool (isHead (xs.drop d))]) ∧ Below w.heap.size w w') at HC
  generalize headN (xs.drop d) = N at *
  generalize isHead (xs.drop d) = hd at *
  have HB := Lib.hid hB
  have HN := Lib.hid hn
  clear hB10 h10 hB hn
  cases hd
  · have hf : secondL xs = none := by rw [HF.out, if_neg]; rintro ⟨h, _⟩; cases h
    have hf := Lib.hid hf
    simp only [Bool.false_eq_true, if_false] at HC
    go_enter Tryz.func17, Tryz.ntmps17
    go_wp2_with fail
    refine (HC.out).mono ?_
    rintro e w1 ⟨rfl, hb1⟩
    go_wp2
    go_ret3
    first | exact ⟨hb1, rfl⟩ | (refine ⟨hb1, ?_⟩; rw [hf.out]; rfl)
  · simp only [if_true] at HC
    rcases Nat.lt_or_ge (d + 10) (14 + 9 * N) with hE | hE
    · have hf : secondL xs = none := by rw [HF.out, if_neg]; rintro ⟨_, h, _⟩; omega
      have hf := Lib.hid hf
      go_enter Tryz.func17, Tryz.ntmps17
      go_wp2_with fail
      refine (HC.out).mono ?_
      rintro e w1 ⟨rfl, hb1⟩
      go_wp2
      go_ret3
      first | exact ⟨hb1, rfl⟩ | (refine ⟨hb1, ?_⟩; rw [hf.out]; rfl)
    · obtain ⟨F, rfl⟩ : ∃ F, d = F + 4 + 9 * N := ⟨d - 4 - 9 * N, by omega⟩
      have e0 : F + 4 + 9 * N + 10 - 14 - 9 * N = F := by omega
      rw [e0] at HF
      have hbt : Byt w (some ⟨b, off + F, none⟩) ((xs.drop F).take (4 + 9 * N)) := by
        have := (HB.out.drop F c (by rw [HN.out]; omega) (by rw [HN.out]; omega)).take (4 + 9 * N)
        rw [if_neg (by omega)] at this
        simpa [add_at] using this
      have HT := Lib.hid hbt
      have HTL : Hid (((xs.drop F).take (4 + 9 * N)).length = 4 + 9 * N) := by
        show _ = _
        simp [HN.out]; omega
      clear hbt e0
      generalize (xs.drop F).take (4 + 9 * N) = t at *
      have hm1 : decide ((F : Int) + 4 + 9 * (N : Int) - 9 * (N : Int) - 4 < 0) = false := by rw [decide_eq_false_iff_not]; omega
      go_enter Tryz.func17, Tryz.ntmps17
      go_wp2_with fail
      refine (HC.out).mono ?_
      rintro e w1 ⟨rfl, hb1⟩
      go_wp2_with fail
      refine (right_n _ _ _ t w1 (HT.out.below hb1) (by rw [HTL.out]; omega) (by omega) (by omega)).mono ?_
      rintro e w2 ⟨rfl, hb2⟩
      have HB2 := Lib.hid (below_then hb1 hb2)
      have HT2 := Lib.hid ((HT.out.below hb1).below hb2)
      clear hb1 hb2 HB
      generalize rightB t = rt at *
      cases rt
      · have hf : secondL xs = none := by rw [HF.out, if_neg]; rintro ⟨_, _, h⟩; cases h
        have hf := Lib.hid hf
        go_wp2
        go_ret3
        first | exact ⟨HB2.out, rfl⟩ | (refine ⟨HB2.out, ?_⟩; rw [hf.out]; rfl)
      · have hf : secondL xs = some (t, (F : Int) - 4 - (rowSum t N : Nat)) := by rw [HF.out, if_pos ⟨trivial, by omega, rfl⟩]
        have hf := Lib.hid hf
        go_wp2
        go_loop [9, 53] (fun a i => ∃ k : Nat, k ≤ N ∧ i = .int .i64 k ∧ a = .int .i64 ((F : Int) - 4 - (rowSum t k : Nat))) (fun _ i => N - (intOf i).toNat)
        case atStart => exact ⟨0, by omega, rfl, by simp [rowSum]⟩
        case round =>
          obtain ⟨k, hk, rfl, rfl⟩ := hrel
          by_cases hlt : k < N
          · have y0 := rowSum_le HT2.out k
            have y1 := rowN_lt HT2.out k
            have hbr : Byt w2 (some ⟨b, off + F + (9 * k + 1), none⟩) ((t.drop (9 * k + 1)).take 4) := by
              have := (HT2.out.drop (9 * k + 1) (4 + 9 * N) (by rw [HTL.out]; omega) (by rw [HTL.out]; omega)).take 4
              rw [if_neg (by omega)] at this
              simpa [add_at] using this
            have HBR := Lib.hid hbr
            have HRL : Hid (((t.drop (9 * k + 1)).take 4).length = 4) := by
              show _ = _
              simp [HTL.out]; omega
            have HS : Hid (rowSum t (k + 1) = rowSum t k + rowN t k) := rfl
            have HV : Hid (valOf ((t.drop (9 * k + 1)).take 4) = rowN t k) := rfl
            clear hbr
            generalize rowSum t k = sm at *
            generalize rowN t k = rv at *
            generalize (t.drop (9 * k + 1)).take 4 = row at *
            go_wp2_with fail
            refine (told_n _ _ 4 row w2 HBR.out HRL.out (by omega)).mono ?_
            rintro e w3 ⟨rfl, rfl⟩
            rw [HV.out]
            go_wp2
            refine ⟨⟨k + 1, by omega, by go_num, ?_⟩, by simp [intOf]; omega⟩
            rw [HS.out]
            go_num
          · obtain rfl : k = N := by omega
            have e1 : t.length = F + 4 + 9 * k - F := by rw [HTL.out]; omega
            go_wp2
            go_ret3
            refine ⟨HB2.out, ?_⟩
            first | rw [hf.out] | skip
            refine ⟨some ⟨b, off + F, none⟩, c - F, ?_, HT2.out, ?_⟩
            · rw [e1]
              rfl
            · rw [e1]; omega
theorem second_n (A : Option Addr) (c n : Nat) (xs : List Nat) (w : World) (hB : Byt w A xs) (hn : xs.length = n) (hc : n ≤ c) (hu : n ≤ 60000) :
    Calls Tryz.prog 17 #[.slice A n c] w (HeadPost (secondL xs) w) := by
  rcases Nat.lt_or_ge n 10 with h | h
  · exact second_short A c n xs w hn h
  · obtain ⟨d, rfl⟩ : ∃ d, n = d + 10 := ⟨n - 10, by omega⟩
    exact second_long A c d xs w hB hn hc (by omega)
end Go.Proofs.YtnbhgeehlcjmdaaGreat
