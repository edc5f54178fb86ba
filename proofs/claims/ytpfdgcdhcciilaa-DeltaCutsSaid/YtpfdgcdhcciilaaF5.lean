/- Whether changes are few, and rows of them copied. -/
import Derived.Test.YtpfdgcdhcciilaaF4
namespace Go.Proofs.Ytpfdgcdhcciilaa
open Go.RowKit

def fewB (cs : List Chg) : Bool := decide (cs.length ≤ 8) && cs.all fun c => decide (c.data.length ≤ 60)
theorem few_at {cs : List Chg} {k : Nat} (hk : k < cs.length) (h : 60 < (cs.getD k default).data.length) : fewB cs = false := by
  unfold fewB
  rw [Bool.and_eq_false_iff]
  right
  rw [List.all_eq_false]
  refine ⟨cs.getD k default, ?_, by rw [decide_eq_true_iff]; omega⟩
  simp [List.getD, hk]
theorem few_of {cs : List Chg} (h8 : cs.length ≤ 8) (h : ∀ k, k < cs.length → (cs.getD k default).data.length ≤ 60) : fewB cs = true := by
  unfold fewB
  rw [Bool.and_eq_true]
  refine ⟨by simpa using h8, ?_⟩
  rw [List.all_eq_true]
  intro c hc
  obtain ⟨k, hk, rfl⟩ := List.getElem_of_mem hc
  have := h k hk
  simp [List.getD, hk] at this
  simpa using this

set_option maxHeartbeats 400000 in
theorem great_any (A : Option Addr) (c : Nat) (cs : List Chg) (w : World) (hB : Chs w A cs) (hl : cs.length ≤ maxLen) :
    Calls Try.prog 7 #[.slice A cs.length c] w fun e w' => e = .returned (.bool (!fewB cs)) ∧ w = w' := by
  unfold maxLen at hl
  cases h8 : decide ((8 : Int) < cs.length)
  · go_enter Try.func7, Try.ntmps7
    go_wp2
    go_loop [3] (fun i => ∃ k : Nat, k ≤ cs.length ∧ i = .int .i64 k ∧ ∀ j, j < k → (cs.getD j default).data.length ≤ 60) (fun i => cs.length - (intOf i).toNat)
    case atStart => exact ⟨0, by omega, rfl, by intro j hj; omega⟩
    case round =>
      obtain ⟨k, hk, rfl, he⟩ := hrel
      by_cases hlt : k < cs.length
      · have HE := Lib.hid he
        clear he
        have HG := Lib.hid (few_at hlt)
        have HC := Lib.hid (show ∀ j, j < k + 1 → (j < k ∨ j = k) from by omega)
        obtain ⟨b, off, rfl, hc⟩ := hB (by omega)
        obtain ⟨c0, c1, _, P, cP, c2, _⟩ := hc k hlt
        clear hc hB
        have i1 : (0 : Int) ≤ (k : Int) := by omega
        have i2 : (k : Int) < (cs.length : Int) := by omega
        generalize hx : cs.getD k default = x at *
        have HX := Lib.hid hx
        clear hx
        obtain ⟨bay, old, data⟩ := x
        dsimp only at *
        cases h1 : decide ((60 : Int) < data.length)
        · go_wp2
          refine ⟨⟨k + 1, by omega, by go_num, ?_⟩, by simp [intOf]; omega⟩
          intro j hj
          rcases HC.out j hj with h | rfl
          · exact HE.out j h
          · rw [HX.out]
            rw [decide_eq_false_iff_not] at h1
            show data.length ≤ 60
            omega
        · go_wp2
          go_ret
          have : fewB cs = false := HG.out (by rw [decide_eq_true_iff] at h1; omega)
          exact ⟨by rw [this]; rfl, rfl⟩
      · have HF : Hid (fewB cs = true) := few_of (by simp at h8; omega) (fun j hj => he j (by omega))
        go_wp2
        go_ret
        exact ⟨by rw [HF.out]; rfl, rfl⟩
  · have HF : Hid (fewB cs = false) := by
      show fewB cs = false
      unfold fewB
      rw [Bool.and_eq_false_iff]
      left
      simp at h8 ⊢
      omega
    go_enter Try.func7, Try.ntmps7
    go_wp2
    go_ret
    exact ⟨by rw [HF.out]; rfl, rfl⟩
end Go.Proofs.Ytpfdgcdhcciilaa
