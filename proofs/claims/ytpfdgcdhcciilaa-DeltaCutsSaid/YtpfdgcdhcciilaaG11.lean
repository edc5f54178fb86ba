/- DeltaBytes: walk. -/
import Derived.Test.YtpfdgcdhcciilaaG10
namespace Go.Proofs.Ytpfdgcdhcciilaa
open Go.RowKit

theorem chs_old {w : World} {A : Option Addr} {cs : List Chg} (h : Chs w A cs) : ∀ i, i < cs.length → (cs.getD i default).old < 4294967296 := by
  intro i hi
  obtain ⟨b, off, _, hc⟩ := h (by omega)
  exact (hc i hi).2.2.1
theorem enc_len {cs : List Chg} (hf : fewB cs = true) : (enc cs).length ≤ 558 := by
  have h8 := (few_data hf).1
  have := bodyTo_le cs hf cs.length (Nat.le_refl _)
  rw [bodyTo_len] at this
  simp only [enc, List.length_append, num4_len]
  omega
theorem enc_lt {cs : List Chg} (hr : rightC cs = true) (hx : ∀ i, i < cs.length → ∀ x ∈ (cs.getD i default).data, x < 256) : ∀ x ∈ enc cs, x < 256 := by
  intro x hx'
  simp only [enc, List.mem_append] at hx'
  rcases hx' with h | h
  · exact body_lt cs (fun i hi => (right_at hr i hi).1) (fun i hi => (right_at hr i hi).2.1) hx x h
  · exact num4_lt _ x h
/-- Encode, the bytes as a slice of them is read -/
theorem encode_byt (A : Option Addr) (c : Nat) (cs : List Chg) (w : World) (hB : Chs w A cs) (hr : rightC cs = true) (hf : fewB cs = true) (hx : ∀ i, i < cs.length → ∀ x ∈ (cs.getD i default).data, x < 256) :
    Calls Try.prog 9 #[.slice A cs.length c] w fun e w' => ∃ A' c', e = .returned (.tuple #[.slice A' (enc cs).length c', .int .i64 0]) ∧ Byt w' A' (enc cs) ∧ (enc cs).length ≤ c' ∧ Below w.heap.size w w' := by
  refine (encode_right A c cs w hB hr hf hx).mono ?_
  rintro e w' ⟨v, rfl, hown, hb⟩
  obtain ⟨A', c', rfl, hB, hc, _⟩ := Byt.of_own hown (enc_lt hr hx)
  exact ⟨A', c', rfl, hB, hc, hb⟩
theorem refEncode_byt (A : Option Addr) (c : Nat) (cs : List Chg) (w : World) (hB : Chs w A cs) (hr : rightC cs = true) (hf : fewB cs = true) (hx : ∀ i, i < cs.length → ∀ x ∈ (cs.getD i default).data, x < 256) :
    Calls Try.prog 14 #[.slice A cs.length c] w fun e w' => ∃ A' c', e = .returned (.slice A' (enc cs).length c') ∧ Byt w' A' (enc cs) ∧ Below w.heap.size w w' := by
  refine (refEncode_right A c cs w hB hr hf hx).mono ?_
  rintro e w' ⟨v, rfl, hown, hb⟩
  obtain ⟨A', c', rfl, hB, _⟩ := Byt.of_own hown (enc_lt hr hx)
  exact ⟨A', c', rfl, hB, hb⟩
theorem bytes_self (A B : Option Addr) (c d : Nat) (xs : List Nat) (w : World) (hA : Byt w A xs) (hB : Byt w B xs) (hl : xs.length ≤ maxLen) :
    Calls Try.prog 13 #[.slice A xs.length c, .slice B xs.length d] w fun e w' => e = .returned (.bool true) ∧ ∃ n, w' = w.drewN n := by
  have := bytes_any A B c d xs xs w hA hB hl
  rw [show sameB xs xs = true from by simp [sameB]] at this
  exact this

set_option maxRecDepth 100000 in
set_option maxHeartbeats 1000000 in
theorem bytesL_great (A : Option Addr) (c : Nat) (cs : List Chg) (w : World) (hC : Chs w A cs) (hl : cs.length ≤ maxLen) (hf : fewB cs = false) :
    Calls Try.prog 3 #[.slice A cs.length c] w fun e w' => e = .returned (.bool true) ∧ Below w.heap.size w w' := by
  have GR : Hid (∀ W, Below w.heap.size w W → Calls Try.prog 7 #[.slice A cs.length c] W fun e w' => e = .returned (.bool true) ∧ W = w') := fun W h => by
    have := great_any A c cs W (hC.below h) hl
    rw [hf] at this
    exact this
  clear hC hf
  go_enter Try.func3, Try.ntmps3
  go_wp2_with fail
  refine (awake_any _).mono ?_
  rintro e w1 ⟨rfl, hb1⟩
  have HB1 := Lib.hid hb1
  clear hb1
  go_wp2_with fail
  refine (GR.out _ HB1.out).mono ?_
  rintro e w2 ⟨rfl, rfl⟩
  go_wp2
  go_ret
  exact ⟨rfl, HB1.out⟩

set_option maxRecDepth 100000 in
set_option maxHeartbeats 2000000 in
theorem bytesL_wrong (A : Option Addr) (c : Nat) (cs : List Chg) (w : World) (hC : Chs w A cs) (hl : cs.length ≤ maxLen) (hf : fewB cs = true) (hr : rightC cs = false) :
    Calls Try.prog 3 #[.slice A cs.length c] w fun e w' => e = .returned (.bool true) ∧ Below w.heap.size w w' := by
  have hl8 := (few_data hf).1
  have GR : Hid (∀ W, Below w.heap.size w W → Calls Try.prog 7 #[.slice A cs.length c] W fun e w' => e = .returned (.bool false) ∧ W = w') := fun W h => by
    have := great_any A c cs W (hC.below h) hl
    rw [hf] at this
    exact this
  have RR : Hid (∀ W, Below w.heap.size w W → Calls Try.prog 8 #[.slice A cs.length c] W fun e w' => e = .returned (.bool false) ∧ ∃ n, w' = W.drewN n) := fun W h => by
    have := refRight_any A c cs W (hC.below h) hl
    rw [hr] at this
    exact this
  have GV : Hid (∀ W, Below w.heap.size w W → Calls Try.prog 10 #[.slice A cs.length c] W fun e w' => ∃ A' c', e = .returned (.slice A' cs.length c') ∧ Chs w' A' cs ∧ Below W.heap.size W w') := fun W h => given_chs A c cs W (hC.below h) (by omega)
  have EN : Hid (∀ A c W, Chs W A cs → Calls Try.prog 9 #[.slice A cs.length c] W fun e w' => e = .returned (.tuple #[.slice none 0 0, .int .i64 3]) ∧ Below W.heap.size W w') := fun A c W h => encode_wrong A c cs W h hl hr
  have RT : Hid (∀ A c W, Chs W A cs → Calls Try.prog 11 #[.slice A cs.length c] W fun e w' => e = .returned (.bool false) ∧ Below W.heap.size W w') := fun A c W h => by
    have := right_any A c cs W h hl
    rw [hr] at this
    exact this
  clear hC hf hr
  go_enter Try.func3, Try.ntmps3
  go_wp2_with fail
  refine (awake_any _).mono ?_
  rintro e w1 ⟨rfl, hb1⟩
  have HB1 := Lib.hid hb1
  clear hb1
  go_wp2_with fail
  refine (GR.out _ HB1.out).mono ?_
  rintro e w2 ⟨rfl, rfl⟩
  go_wp2_with fail
  refine (RR.out _ HB1.out).mono ?_
  rintro e w2 ⟨rfl, n2, rfl⟩
  have HB2 := Lib.hid (below_drewN HB1.out n2)
  go_wp2_with fail
  refine (GV.out _ HB2.out).mono ?_
  rintro e w3 ⟨A3, c3, rfl, hc3, hb3⟩
  have HC3 := Lib.hid hc3
  have HB3 := Lib.hid (below_then HB2.out hb3)
  clear hc3 hb3
  go_wp2_with fail
  refine (EN.out _ _ _ HC3.out).mono ?_
  rintro e w4 ⟨rfl, hb4⟩
  have HB4 := Lib.hid (below_then HB3.out hb4)
  clear hb4
  go_wp2_with fail
  refine (GV.out _ HB4.out).mono ?_
  rintro e w5 ⟨A5, c5, rfl, hc5, hb5⟩
  have HC5 := Lib.hid hc5
  have HB5 := Lib.hid (below_then HB4.out hb5)
  clear hc5 hb5
  go_wp2_with fail
  refine (RT.out _ _ _ HC5.out).mono ?_
  rintro e w6 ⟨rfl, hb6⟩
  have HB6 := Lib.hid (below_then HB5.out hb6)
  clear hb6
  go_wp2_with fail
  refine (GV.out _ HB6.out).mono ?_
  rintro e w7 ⟨A7, c7, rfl, hc7, hb7⟩
  have HC7 := Lib.hid hc7
  have HB7 := Lib.hid (below_then HB6.out hb7)
  clear hc7 hb7
  go_wp2_with fail
  refine (RT.out _ _ _ HC7.out).mono ?_
  rintro e w8 ⟨rfl, hb8⟩
  have HB8 := Lib.hid (below_then HB7.out hb8)
  clear hb8
  go_wp2
  go_ret
  exact ⟨rfl, HB8.out⟩

set_option maxRecDepth 100000 in
set_option maxHeartbeats 2000000 in
theorem bytesL_right (A : Option Addr) (c : Nat) (cs : List Chg) (w : World) (hC : Chs w A cs) (hl : cs.length ≤ maxLen) (hf : fewB cs = true) (hr : rightC cs = true) (hx : ∀ i, i < cs.length → ∀ x ∈ (cs.getD i default).data, x < 256) :
    Calls Try.prog 3 #[.slice A cs.length c] w fun e w' => e = .returned (.bool true) ∧ Below w.heap.size w w' := by
  have hl8 := (few_data hf).1
  have GR : Hid (∀ W, Below w.heap.size w W → Calls Try.prog 7 #[.slice A cs.length c] W fun e w' => e = .returned (.bool false) ∧ W = w') := fun W h => by
    have := great_any A c cs W (hC.below h) hl
    rw [hf] at this
    exact this
  have RR : Hid (∀ W, Below w.heap.size w W → Calls Try.prog 8 #[.slice A cs.length c] W fun e w' => e = .returned (.bool true) ∧ ∃ n, w' = W.drewN n) := fun W h => by
    have := refRight_any A c cs W (hC.below h) hl
    rw [hr] at this
    exact this
  have GV : Hid (∀ W, Below w.heap.size w W → Calls Try.prog 10 #[.slice A cs.length c] W fun e w' => ∃ A' c', e = .returned (.slice A' cs.length c') ∧ Chs w' A' cs ∧ Below W.heap.size W w') := fun W h => given_chs A c cs W (hC.below h) (by omega)
  have EN : Hid (∀ A c W, Chs W A cs → Calls Try.prog 9 #[.slice A cs.length c] W fun e w' => ∃ A' c', e = .returned (.tuple #[.slice A' (enc cs).length c', .int .i64 0]) ∧ Byt w' A' (enc cs) ∧ (enc cs).length ≤ c' ∧ Below W.heap.size W w') := fun A c W h => encode_byt A c cs W h hr hf hx
  have RE : Hid (∀ W, Below w.heap.size w W → Calls Try.prog 14 #[.slice A cs.length c] W fun e w' => ∃ A' c', e = .returned (.slice A' (enc cs).length c') ∧ Byt w' A' (enc cs) ∧ Below W.heap.size W w') := fun W h => refEncode_byt A c cs W (hC.below h) hr hf hx
  have RT : Hid (∀ A c W, Chs W A cs → Calls Try.prog 11 #[.slice A cs.length c] W fun e w' => e = .returned (.bool true) ∧ Below W.heap.size W w') := fun A c W h => by
    have := right_any A c cs W h hl
    rw [hr] at this
    exact this
  have hel := enc_len hf
  have DC : Hid (∀ A c W, Byt W A (enc cs) → (enc cs).length ≤ c → Calls Try.prog 12 #[.slice A (enc cs).length c] W fun e w' => ∃ A' c', e = .returned (.tuple #[.slice A' cs.length c', .int .i64 0]) ∧ Chs w' A' cs ∧ Below W.heap.size W w') := fun A c W h hc => by
    have := decode_chs A c (enc cs) W h (by omega) hc
    rw [dec_enc cs (good_of hr hf (chs_old hC)) (by omega) hr] at this
    exact this
  have HC := Lib.hid hC
  have HD : Hid (∀ c ∈ cs, c.data.length ≤ 65536) := fun c hc => by
    obtain ⟨i, hi, rfl⟩ := List.getElem_of_mem hc
    have := (few_data hf).2 i hi
    rw [getD_at _ _ _ hi] at this
    omega
  clear hC hf hr hx
  generalize enc cs = X at *
  go_enter Try.func3, Try.ntmps3
  go_wp2_with fail
  refine (awake_any _).mono ?_
  rintro e w1 ⟨rfl, hb1⟩
  have HB1 := Lib.hid hb1
  clear hb1
  go_wp2_with fail
  refine (GR.out _ HB1.out).mono ?_
  rintro e w2 ⟨rfl, rfl⟩
  go_wp2_with fail
  refine (RR.out _ HB1.out).mono ?_
  rintro e w2 ⟨rfl, n2, rfl⟩
  have HB2 := Lib.hid (below_drewN HB1.out n2)
  go_wp2_with fail
  refine (GV.out _ HB2.out).mono ?_
  rintro e w3 ⟨A3, c3, rfl, hc3, hb3⟩
  have HC3 := Lib.hid hc3
  have HB3 := Lib.hid (below_then HB2.out hb3)
  clear hc3 hb3
  go_wp2_with fail
  refine (EN.out _ _ _ HC3.out).mono ?_
  rintro e w4 ⟨A4, c4, rfl, hbt4, hc4, hb4⟩
  have HB4 := Lib.hid (below_then HB3.out hb4)
  have BT4 := Lib.hid hbt4
  have LC4 := Lib.hid hc4
  clear hb4 hbt4 hc4
  go_wp2_with fail
  refine (GV.out _ HB4.out).mono ?_
  rintro e w5 ⟨A5, c5, rfl, hc5, hb5⟩
  have HC5 := Lib.hid hc5
  have HB5 := Lib.hid (below_then HB4.out hb5)
  have BT5 := Lib.hid (BT4.out.below hb5)
  clear hc5 hb5
  go_wp2_with fail
  refine (RT.out _ _ _ HC5.out).mono ?_
  rintro e w6 ⟨rfl, hb6⟩
  have HB6 := Lib.hid (below_then HB5.out hb6)
  have BT6 := Lib.hid (BT5.out.below hb6)
  clear hb6
  go_wp2_with fail
  refine (DC.out _ _ _ BT6.out LC4.out).mono ?_
  rintro e w7 ⟨A7, c7, rfl, hc7, hb7⟩
  have HC7 := Lib.hid hc7
  have HB7 := Lib.hid (below_then HB6.out hb7)
  have BT7 := Lib.hid (BT6.out.below hb7)
  clear hc7 hb7
  go_wp2_with fail
  refine (RE.out _ HB7.out).mono ?_
  rintro e w8 ⟨A8, c8, rfl, hbt8, hb8⟩
  have HB8 := Lib.hid (below_then HB7.out hb8)
  have BT8 := Lib.hid (BT7.out.below hb8)
  have BR8 := Lib.hid hbt8
  have HC8 := Lib.hid (HC7.out.below hb8)
  clear hb8 hbt8
  go_wp2_with fail
  refine (bytes_self _ _ _ _ X _ BT8.out BR8.out (by unfold maxLen; omega)).mono ?_
  rintro e w9 ⟨rfl, n9, rfl⟩
  have HB9 := Lib.hid (below_drewN HB8.out n9)
  have HC9 : Hid (Chs (w8.drewN n9) A7 cs) := HC8.out
  go_wp2_with fail
  refine (plain_chs _ _ cs _ HC9.out (by omega)).mono ?_
  rintro e w10 ⟨A10, c10, rfl, hc10, hb10⟩
  have HB10 := Lib.hid (below_then HB9.out hb10)
  have HC10 := Lib.hid hc10
  clear hb10 hc10
  go_wp2_with fail
  refine (same_self _ _ _ _ cs _ HC10.out (HC.out.below HB10.out) (by omega) HD.out).mono ?_
  rintro e w11 ⟨rfl, n11, rfl⟩
  go_wp2
  go_ret
  exact ⟨rfl, below_drewN HB10.out _⟩
theorem bytesL_any (A : Option Addr) (c : Nat) (cs : List Chg) (w : World) (hC : Chs w A cs) (hl : cs.length ≤ maxLen) (hx : ∀ i, i < cs.length → ∀ x ∈ (cs.getD i default).data, x < 256) :
    Calls Try.prog 3 #[.slice A cs.length c] w fun e w' => e = .returned (.bool true) ∧ Below w.heap.size w w' := by
  cases hf : fewB cs
  · exact bytesL_great A c cs w hC hl hf
  · cases hr : rightC cs
    · exact bytesL_wrong A c cs w hC hl hf hr
    · exact bytesL_right A c cs w hC hl hf hr hx
end Go.Proofs.Ytpfdgcdhcciilaa
