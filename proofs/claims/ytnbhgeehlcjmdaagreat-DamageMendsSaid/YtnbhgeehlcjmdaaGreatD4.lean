/- Whether bytes end with the sum of those ahead: walk of box.right. -/
import Derived.Test.YtnbhgeehlcjmdaaGreatD2
import Derived.Laws.BytesArg
namespace Go.Proofs.YtnbhgeehlcjmdaaGreat
open Go.RowKit

def rightB (xs : List Nat) : Bool := decide (4 ≤ xs.length) && sameB (sealL (xs.take (xs.length - 4))) xs
theorem clone_n (b off c n : Nat) (ys : List Nat) (w : World) (hB : Byt w (some ⟨b, off, none⟩) ys) (hn : ys.length = n) (hl : n ≤ 65536) :
    Calls Tryz.prog 38 #[.slice (some ⟨b, off, none⟩) n c] w fun e w' => ∃ v, e = .returned v ∧ ownD w' w.heap.size v ys ∧ Below w.heap.size w w' := by
  subst hn
  exact clone_any b off c ys w hB hl
theorem equal_n (A B : Option Addr) (c d m n : Nat) (xs ys : List Nat) (w : World) (hA : Byt w A xs) (hB : Byt w B ys) (hm : xs.length = m) (hn : ys.length = n) (hl : m ≤ 1000000) :
    Calls Tryz.prog 15 #[.slice A m c, .slice B n d] w fun e w' => e = .returned (.bool (sameB xs ys)) ∧ ∃ n, w' = w.drewN n := by
  subst hm hn
  exact equal_any A B c d xs ys w hA hB (by unfold maxLen; omega)
set_option maxHeartbeats 1000000 in
theorem right_n (A : Option Addr) (c n : Nat) (xs : List Nat) (w : World) (hB : Byt w A xs) (hn : xs.length = n) (hc : n ≤ c) (hl : n ≤ 60000) :
    Calls Tryz.prog 36 #[.slice A n c] w fun e w' => e = .returned (.bool (rightB xs)) ∧ Below w.heap.size w w' := by
  by_cases h4 : 4 ≤ n
  · obtain ⟨k, rfl⟩ : ∃ k, n = k + 4 := ⟨n - 4, by omega⟩
    obtain ⟨b, off, rfl, _⟩ := hB.2 (by omega)
    have hr : rightB xs = sameB (sealL (xs.take k)) xs := by
      unfold rightB
      rw [hn]
      simp
    rw [hr]
    have htl : (xs.take k).length = k := by simp; omega
    have hbl : b < w.heap.size := by
      obtain ⟨b', off', e, hcs⟩ := hB.2 (by omega)
      injection e with e
      injection e with e1 e2
      subst e1 e2
      exact World.block_lt_of_cell? _ _ (hcs 0 (by omega))
    have HC := Lib.hid (clone_n b off c k (xs.take k) w (hB.take k) htl (by omega))
    have HB := Lib.hid hB
    have HN := Lib.hid hn
    have HT := Lib.hid htl
    clear hB hn htl hr hbl
    go_enter Tryz.func36, Tryz.ntmps36
    go_wp2_with fail
    refine (HC.out).mono ?_
    rintro e w1 ⟨v1, rfl, hown1, hb1⟩
    have HB1 := Lib.hid hb1
    have HO1 := Lib.hid hown1
    clear hown1 hb1
    go_wp2_with fail
    refine (summed_any w.heap.size v1 (xs.take k) w1 HO1.out.1 HO1.out.2 HB1.out.size (by rw [HT.out]; omega)).mono ?_
    rintro e w2 ⟨v2, rfl, hown2, hg2, hv2⟩
    have hb2 : Below w.heap.size w w2 := app_below HB1.out HO1.out.2 hg2
    obtain ⟨A2, c2, rfl, hA2, _⟩ := Byt.of_own hown2 (by
      intro x hx
      rw [sealL, List.mem_append] at hx
      rcases hx with hx | hx
      · exact HO1.out.1 x hx
      · exact low4_lt _ x hx)
    have HB2 := Lib.hid hb2
    have HA2 := Lib.hid hA2
    have hsl : (sealL (xs.take k)).length = k + 4 := by simp [sealL, low4, HT.out]
    have HSL := Lib.hid hsl
    clear hown2 hg2 hv2 hb2 hA2 HO1
    rw [hsl]
    clear hsl
    go_wp2_with fail
    refine (equal_n A2 (some ⟨b, off, none⟩) c2 c (k + 4) (k + 4) (sealL (xs.take k)) xs w2 HA2.out (HB.out.below HB2.out) HSL.out HN.out (by omega)).mono ?_
    rintro e w3 ⟨rfl, m, rfl⟩
    go_wp2
    go_ret
    exact ⟨rfl, below_drewN HB2.out m⟩
  · have hr : rightB xs = false := by
      unfold rightB
      rw [hn]
      simp; omega
    rw [hr]
    clear hr hB hn
    go_enter Tryz.func36, Tryz.ntmps36
    go_wp2
    go_ret
    exact ⟨rfl, Below.refl _ _⟩
end Go.Proofs.YtnbhgeehlcjmdaaGreat
/-! What the heads of a box tell: walks of box.count, first, second. -/
namespace Go.Proofs.YtnbhgeehlcjmdaaGreat
open Go.RowKit

def strB (xs : List Nat) : ByteArray := ⟨(xs.map fun n => UInt8.ofNat n).toArray⟩
theorem conv_n {w : World} {A : Option Addr} {xs : List Nat} {n : Nat} (h : Byt w A xs) (hn : xs.length = n) (c : Nat) : (convert 25 9 (.slice A n c)).run Tryz.prog w = .ok (.string (strB xs)) w := by
  subst hn
  rcases Nat.eq_zero_or_pos xs.length with h0 | h0
  · obtain rfl : xs = [] := List.eq_nil_of_length_eq_zero h0
    cases A with
    | none => exact run_convert_bytes_nil w 25 5 Tryz.underlying25 Tryz.underlying5 0 c 9 Tryz.underlying9
    | some a =>
      obtain ⟨b, off, sp⟩ := a
      have hl : (loadCells ⟨b, off, sp⟩ 0).run Tryz.prog w = .ok (([] : List Int).map (Value.int .u8)).toArray w := by simp [loadCells, loadCellsFrom]
      refine (run_convert_bytes_string w 25 9 5 _ 0 c Tryz.underlying25 Tryz.underlying5 Tryz.underlying9).trans ?_
      exact run_bytesToString w _ 0 c [] hl
  · obtain ⟨b, off, rfl, hc⟩ := h.2 h0
    have := run_convert_bytes_arg (P := Tryz.prog) w 25 5 Tryz.underlying25 Tryz.underlying5 b off xs.length c (xs.map fun (n : Nat) => (n : Int)) (by simp) (fun i hi => by
      rw [hc i hi]
      simp [List.getD, hi]) 9 Tryz.underlying9
    rw [this]
    have e : strOfNums (xs.map fun (n : Nat) => (n : Int)) = strB xs := by simp [strOfNums, strB, Function.comp_def]
    rw [e]
theorem told_n (A : Option Addr) (c n : Nat) (xs : List Nat) (w : World) (hB : Byt w A xs) (hn : xs.length = n) (hl : n ≤ 4) :
    Calls Tryz.prog 37 #[.slice A n c] w fun e w' => e = .returned (.int .i64 (valOf xs : Nat)) ∧ w = w' := by
  subst hn
  exact told_any A c xs w hB hl
def isHead (xs : List Nat) : Bool := decide (xs.length = 10) && ((strB (xs.take 4)).toList == [71, 89, 80, 83]) && rightB xs
set_option maxHeartbeats 1000000 in
theorem count_no (A : Option Addr) (c n : Nat) (w : World) (hl : n ≠ 10) :
    Calls Tryz.prog 35 #[.slice A n c] w fun e w' => e = .returned (.tuple #[.int .i64 0, .bool false]) ∧ w' = w := by
  have h1 : ((n : Int) != 10) = true := by simp; omega
  go_enter Tryz.func35, Tryz.ntmps35
  go_wp2
  go_ret2
  exact ⟨rfl, rfl⟩
set_option maxRecDepth 100000 in
set_option maxHeartbeats 1000000 in
theorem count_ten (A : Option Addr) (c : Nat) (xs : List Nat) (w : World) (hB : Byt w A xs) (hn : xs.length = 10) (hc : 10 ≤ c) :
    Calls Tryz.prog 35 #[.slice A 10 c] w fun e w' => e = .returned (.tuple #[.int .i64 ((if isHead xs then valOf ((xs.drop 4).take 2) else 0 : Nat) : Int), .bool (isHead xs)]) ∧ Below w.heap.size w w' := by
  obtain ⟨b, off, rfl, _⟩ := hB.2 (by omega)
  have g := conv_n (hB.take 4) (n := 4) (by simp; omega) c
  have HR := Lib.hid (right_n (some ⟨b, off, none⟩) c 10 xs w hB hn hc (by omega))
  have HB := Lib.hid hB
  have HN := Lib.hid hn
  have HH : Hid (isHead xs = (((strB (xs.take 4)).toList == [71, 89, 80, 83]) && rightB xs)) := by
    show isHead xs = _
    unfold isHead
    rw [hn]
    simp
  have h42 : ((xs.drop 4).take 2).length = 2 := by simp; omega
  have hb42 : Byt w (some ⟨b, off + 4, none⟩) ((xs.drop 4).take 2) := by
    have := (hB.drop 4 c (by omega) (by omega)).take 2
    rw [if_neg (by omega)] at this
    simpa [add_at] using this
  have H42 := Lib.hid h42
  have HB42 := Lib.hid hb42
  clear h42 hb42
  generalize (xs.drop 4).take 2 = ys at *
  generalize isHead xs = hd at *
  generalize rightB xs = rb at *
  generalize strB (xs.take 4) = S at *
  clear hB hn HB HN
  cases hS : (S.toList == [71, 89, 80, 83])
  · have hd0 : hd = false := by rw [HH.out, hS]; rfl
    subst hd0
    go_enter Tryz.func35, Tryz.ntmps35
    go_wp2
    go_ret2
    exact ⟨rfl, Below.refl _ _⟩
  · have hd0 : hd = rb := by rw [HH.out, hS]; rfl
    subst hd0
    go_enter Tryz.func35, Tryz.ntmps35
    go_wp2_with fail
    refine (HR.out).mono ?_
    rintro e w1 ⟨rfl, hb1⟩
    cases hd
    · go_wp2
      go_ret2
      exact ⟨rfl, hb1⟩
    · go_wp2_with fail
      refine (told_n (some ⟨b, off + 4, none⟩) _ 2 ys w1 (HB42.out.below hb1) H42.out (by omega)).mono ?_
      rintro e w2 ⟨rfl, rfl⟩
      go_wp2
      go_ret2
      exact ⟨rfl, hb1⟩
end Go.Proofs.YtnbhgeehlcjmdaaGreat
