/- DeltaReads: walk. -/
import Derived.Test.YtpfdgcdhcciilaaG9
namespace Go.Proofs.Ytpfdgcdhcciilaa
open Go.RowKit

theorem parse_le : ∀ (n : Nat) (r : List Nat) (l : List Chg) (s : List Nat), parse n r = some (l, s) → l.length ≤ r.length ∧ ∀ c ∈ l, c.data.length ≤ r.length := by
  intro n
  induction n with
  | zero => intro r l s h; simp [parse] at h; obtain ⟨rfl, _⟩ := h; simp
  | succ n ih =>
    intro r l s h
    by_cases hn : r.length < 9 ∨ r.length < 9 + lenAt r
    · rw [parse_no hn] at h; cases h
    · rw [parse_yes hn] at h
      unfold pre at h
      simp only [Option.map_eq_some_iff] at h
      obtain ⟨⟨l2, s2⟩, h2, h3⟩ := h
      simp at h3
      obtain ⟨rfl, _⟩ := h3
      obtain ⟨g1, g2⟩ := ih _ _ _ h2
      rw [List.length_drop] at g1 g2
      refine ⟨by simp; omega, fun c hc => ?_⟩
      simp at hc
      rcases hc with rfl | hc
      · simp [chgAt]; omega
      · have := g2 c hc; omega
theorem dec_le (xs : List Nat) : (dec xs).1.length ≤ xs.length ∧ (∀ c ∈ (dec xs).1, c.data.length ≤ xs.length) ∧ ((dec xs).2 = 0 ∨ (dec xs).1 = []) := by
  unfold dec
  split
  · simp
  · generalize hp : parse (countOf xs) (xs.drop 2) = o
    rcases o with _ | ⟨l, r⟩
    · simp [decWith]
    · have := parse_le _ _ _ _ hp
      rw [List.length_drop] at this
      simp only [decWith]
      repeat' split
      all_goals simp
      exact ⟨by omega, fun c hc => by have := this.2 c hc; omega⟩
theorem bytD.below {w w' : World} {v : Value} {xs : List Nat} (h : bytD w v xs) (hb : Below w.heap.size w w') : bytD w' v xs := by
  obtain ⟨P, c, e, hB⟩ := h
  exact ⟨P, c, e, hB.below hb⟩
/-- plain, given: what they make is read as it was -/
theorem plain_chs (A : Option Addr) (c : Nat) (cs : List Chg) (w : World) (hB : Chs w A cs) (hl : cs.length ≤ 65536) :
    Calls Try.prog 16 #[.slice A cs.length c] w fun e w' => ∃ A' c', e = .returned (.slice A' cs.length c') ∧ Chs w' A' cs ∧ Below w.heap.size w w' := by
  refine (plain_any A c cs w hB hl).mono ?_
  rintro e w' ⟨v, rows, rfl, hown, hrow, hb⟩
  obtain ⟨A', c', rfl, hch⟩ := chs_of_own hown (hrow.mono (fun v l h => h.below hb))
  exact ⟨A', c', rfl, hch, hb⟩
theorem given_chs (A : Option Addr) (c : Nat) (cs : List Chg) (w : World) (hB : Chs w A cs) (hl : cs.length ≤ 65536) :
    Calls Try.prog 10 #[.slice A cs.length c] w fun e w' => ∃ A' c', e = .returned (.slice A' cs.length c') ∧ Chs w' A' cs ∧ Below w.heap.size w w' := by
  refine (given_any A c cs w hB hl).mono ?_
  rintro e w' ⟨v, rows, rfl, hown, hrow, hb⟩
  obtain ⟨A', c', rfl, hch⟩ := chs_of_own hown (hrow.mono (fun v l h => h.below hb))
  exact ⟨A', c', rfl, hch, hb⟩
theorem same_self (A B : Option Addr) (c d : Nat) (xs : List Chg) (w : World) (hA : Chs w A xs) (hB : Chs w B xs) (hl : xs.length ≤ 65536) (hx : ∀ c ∈ xs, c.data.length ≤ 65536) :
    Calls Try.prog 15 #[.slice A xs.length c, .slice B xs.length d] w fun e w' => e = .returned (.bool true) ∧ ∃ n, w' = w.drewN n := by
  have := same_any A B c d xs xs w hA hB hl (fun i hi => hx _ (by rw [getD_at _ _ _ hi]; exact List.getElem_mem hi))
  rw [show sameC xs xs = true from by simp [sameC]] at this
  exact this
/-- Decode, the changes as a slice of them is read -/
theorem decode_chs (A : Option Addr) (c : Nat) (xs : List Nat) (w : World) (hB : Byt w A xs) (hl : xs.length ≤ 700) (hcap : xs.length ≤ c) :
    Calls Try.prog 12 #[.slice A xs.length c] w fun e w' => ∃ A' c', e = .returned (.tuple #[.slice A' (dec xs).1.length c', .int .i64 (dec xs).2]) ∧ Chs w' A' (dec xs).1 ∧ Below w.heap.size w w' := by
  refine (decode_any A c xs w hB hl hcap).mono ?_
  rintro e w' ⟨v, rows, rfl, hown, hrow, hb⟩
  obtain ⟨A', c', rfl, hch⟩ := chs_of_own hown (hrow.mono (fun v l h => h.byt))
  exact ⟨A', c', rfl, hch, hb⟩
theorem refDecode_chs (A : Option Addr) (c : Nat) (xs : List Nat) (w : World) (hB : Byt w A xs) (hl : xs.length ≤ 700) (hcap : xs.length ≤ c) :
    Calls Try.prog 17 #[.slice A xs.length c] w fun e w' => ∃ A' c', e = .returned (.tuple #[.slice A' (dec xs).1.length c', .int .i64 (dec xs).2]) ∧ Chs w' A' (dec xs).1 ∧ Below w.heap.size w w' := by
  refine (refDecode_any A c xs w hB hl hcap).mono ?_
  rintro e w' ⟨v, rows, rfl, hown, hrow, hb⟩
  obtain ⟨A', c', rfl, hch⟩ := chs_of_own hown (hrow.mono (fun v l h => h.byt))
  exact ⟨A', c', rfl, hch, hb⟩

set_option maxRecDepth 100000 in
set_option maxHeartbeats 1000000 in
theorem reads_great (A : Option Addr) (n c : Nat) (w : World) (h : 600 < n) :
    Calls Try.prog 4 #[.slice A n c] w fun e w' => e = .returned (.bool true) ∧ Below w.heap.size w w' := by
  have g1 : decide ((600 : Int) < (n : Int)) = true := by rw [decide_eq_true_iff]; omega
  go_enter Try.func4, Try.ntmps4
  go_wp2_with fail
  refine (awake_any _).mono ?_
  rintro e w1 ⟨rfl, hb1⟩
  have HB1 := Lib.hid hb1
  clear hb1
  go_wp2
  go_ret
  exact ⟨rfl, HB1.out⟩
set_option maxRecDepth 100000 in
set_option maxHeartbeats 1000000 in
theorem reads_any (A : Option Addr) (c : Nat) (xs : List Nat) (w : World) (hB : Byt w A xs) (hcap : xs.length ≤ c) :
    Calls Try.prog 4 #[.slice A xs.length c] w fun e w' => e = .returned (.bool true) ∧ Below w.heap.size w w' := by
  by_cases hl : xs.length ≤ 600
  · have g1 : decide ((600 : Int) < (xs.length : Int)) = false := by rw [decide_eq_false_iff_not]; omega
    have DC : Hid (∀ W, Below w.heap.size w W → Calls Try.prog 12 #[.slice A xs.length c] W fun e w' => ∃ A' c', e = .returned (.tuple #[.slice A' (dec xs).1.length c', .int .i64 (dec xs).2]) ∧ Chs w' A' (dec xs).1 ∧ Below W.heap.size W w') :=
      fun W h => decode_chs A c xs W (hB.below h) (by omega) hcap
    have RC : Hid (∀ W, Below w.heap.size w W → Calls Try.prog 17 #[.slice A xs.length c] W fun e w' => ∃ A' c', e = .returned (.tuple #[.slice A' (dec xs).1.length c', .int .i64 (dec xs).2]) ∧ Chs w' A' (dec xs).1 ∧ Below W.heap.size W w') :=
      fun W h => refDecode_chs A c xs W (hB.below h) (by omega) hcap
    obtain ⟨hl1, hl2, hl3⟩ := dec_le xs
    have hll : (dec xs).1.length ≤ 600 := by omega
    have HDL : Hid (∀ c ∈ (dec xs).1, c.data.length ≤ 65536) := fun c hc => by have := hl2 c hc; omega
    have H3 := Lib.hid hl3
    clear hl1 hl2 hl3 hB
    generalize (dec xs).2 = k at *
    generalize (dec xs).1 = l at *
    go_enter Try.func4, Try.ntmps4
    go_wp2_with fail
    refine (awake_any _).mono ?_
    rintro e w1 ⟨rfl, hb1⟩
    have HB1 := Lib.hid hb1
    clear hb1
    go_wp2_with fail
    refine (DC.out _ HB1.out).mono ?_
    rintro e w2 ⟨A2, c2, rfl, hch2, hb2⟩
    have HB2 := Lib.hid (below_then HB1.out hb2)
    have HC2 := Lib.hid hch2
    clear hch2 hb2
    go_wp2_with fail
    refine (RC.out _ HB2.out).mono ?_
    rintro e w3 ⟨A3, c3, rfl, hch3, hb3⟩
    have HB3 := Lib.hid (below_then HB2.out hb3)
    have HC3 := Lib.hid hch3
    have HC2 := Lib.hid (HC2.out.below hb3)
    clear hch3 hb3 g1
    cases hk : (k == 0)
    · have h0 : l = [] := by rcases H3.out with h | h
                             · simp [h] at hk
                             · exact h
      subst h0
      go_wp2_with fail
      refine (plain_chs A2 c2 [] w3 HC2.out (by simp)).mono ?_
      rintro e w4 ⟨A4, c4, rfl, hch4, hb4⟩
      have HB4 := Lib.hid (below_then HB3.out hb4)
      have HC4 := Lib.hid hch4
      have HC3 := Lib.hid (HC3.out.below hb4)
      clear hch4 hb4
      go_wp2_with fail
      refine (same_self A4 A3 c4 c3 [] w4 HC4.out HC3.out (by simp) HDL.out).mono ?_
      rintro e w5 ⟨rfl, n5, rfl⟩
      go_wp2
      go_ret
      exact ⟨rfl, below_drewN HB4.out _⟩
    · go_wp2_with fail
      refine (plain_chs A2 c2 l w3 HC2.out (by omega)).mono ?_
      rintro e w4 ⟨A4, c4, rfl, hch4, hb4⟩
      have HB4 := Lib.hid (below_then HB3.out hb4)
      have HC4 := Lib.hid hch4
      have HC3 := Lib.hid (HC3.out.below hb4)
      clear hch4 hb4
      go_wp2_with fail
      refine (same_self A4 A3 c4 c3 l w4 HC4.out HC3.out (by omega) HDL.out).mono ?_
      rintro e w5 ⟨rfl, n5, rfl⟩
      go_wp2
      go_ret
      exact ⟨rfl, below_drewN HB4.out _⟩
  · exact reads_great A xs.length c w (by omega)
end Go.Proofs.Ytpfdgcdhcciilaa
