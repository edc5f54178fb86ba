/- Contracts of the small functions of lattice and of its reference. -/
import Derived.Test.YtppkbnajpeoaaaaRows
import Derived.WalkKit
import Derived.WalkSpells
import Derived.WalkLawsBesides
import Derived.Deep.QuietTactic
import Derived.BigQuiet
import Derived.Lib.Hide
namespace Go.Proofs.Ytppkbnajpeoaaaa
open Go.RowKit

def onB (x : Int) : Bool := decide (-1048576 ≤ x) && decide (x ≤ 1048576)
theorem on_any (x : Int) (w : World) :
    Calls Try.prog 25 #[.int .i64 x] w fun e w' => e = .returned (.bool (onB x)) ∧ w = w' := by
  go_enter Try.func25, Try.ntmps25
  go_wp2
  all_goals go_ret
  · simp [onB, *]
  · simp [onB]; omega


def inB (m x : Int) : Bool := decide (-m ≤ x) && decide (x ≤ m)
def lat (s a b c : Int) : Value := .agg #[.int .i64 s, .int .i64 a, .int .i64 b, .int .i64 c]
def pt (a b c : Int) : Value := .agg #[.int .i64 a, .int .i64 b, .int .i64 c]
def rightB (s a b c : Int) : Bool := (decide (1 ≤ s) && decide (s ≤ 1048576)) && inB 1099511627776 a && inB 1099511627776 b && inB 1099511627776 c
def right0 (s : Int) : Bool := decide (1 ≤ s) && decide (s ≤ 1048576)
def rightTo (s a b c : Int) (k : Nat) : Bool := right0 s && (k == 0 || inB 1099511627776 a) && (k == 0 || k == 1 || inB 1099511627776 b) && (k == 0 || k == 1 || k == 2 || inB 1099511627776 c)
def nth (a b c : Int) (k : Nat) : Int := if k = 0 then a else if k = 1 then b else c
theorem rightTo_succ (s a b c : Int) (k : Nat) (h : k < 3) : rightTo s a b c (k + 1) = (rightTo s a b c k && inB 1099511627776 (nth a b c k)) := by
  unfold rightTo nth
  rcases (show k = 0 ∨ k = 1 ∨ k = 2 by omega) with rfl | rfl | rfl <;> simp
theorem inB_yes {m x : Int} (h1 : -m ≤ x) (h2 : x ≤ m) : inB m x = true := by simp [inB, h1, h2]
theorem inB_lo {m x : Int} (h : ¬ -m ≤ x) : inB m x = false := by simp [inB, h]
theorem inB_hi {m x : Int} (h : ¬ x ≤ m) : inB m x = false := by simp [inB, h]
theorem agg3_at (a b c : Int) (k : Nat) (h : k < 3) : (#[Value.int IntKind.i64 a, Value.int IntKind.i64 b, Value.int IntKind.i64 c])[k]? = some (.int .i64 (nth a b c k)) := by
  unfold nth
  rcases (show k = 0 ∨ k = 1 ∨ k = 2 by omega) with rfl | rfl | rfl <;> rfl

set_option maxHeartbeats 400000 in
theorem right_any (s a b c : Int) (w : World) :
    Calls Try.prog 14 #[lat s a b c] w fun e w' => e = .returned (.bool (rightB s a b c)) ∧ Below w.heap.size w w' := by
  unfold lat
  have idx : ∀ k : Nat, k < 3 → ∀ w : World, (Instr.index 23 (.agg #[Value.int IntKind.i64 a, Value.int IntKind.i64 b, Value.int IntKind.i64 c]) (.int .i64 (k : Int))).run Try.prog w = .ok (.int .i64 (nth a b c k)) w := by
    intro k h w
    rcases (show k = 0 ∨ k = 1 ∨ k = 2 by omega) with rfl | rfl | rfl <;> kernel_rfl
  have fin : rightB s a b c = rightTo s a b c 3 := by simp [rightB, rightTo, right0]
  rw [fin]; clear fin
  have st : rightTo s a b c 0 = right0 s := by simp [rightTo]
  go_enter Try.func14, Try.ntmps14
  rcases (show (1 ≤ s ∧ s ≤ 1048576) ∨ s < 1 ∨ (1 ≤ s ∧ 1048576 < s) by omega) with ⟨h1, h2⟩ | h1 | ⟨h1, h2⟩
  all_goals
    go_wp2
    go_loop [3, 16] (fun ok i => ∃ k : Nat, k ≤ 3 ∧ i = .int .i64 k ∧ ok = .bool (rightTo s a b c k)) (fun _ i => 3 - (intOf i).toNat)
    case atStart => exact ⟨0, by omega, rfl, by rw [st]; simp [right0]; omega⟩
    case round =>
      obtain ⟨k, hk, rfl, rfl⟩ := hrel
      by_cases hlt : k < 3
      · have hs := rightTo_succ s a b c k hlt
        have hi := idx k hlt
        generalize nth a b c k = x at *
        generalize rightTo s a b c k = ok at *
        clear idx
        cases ok
        · go_wp2
          go_round
          case rel => exact ⟨k + 1, by omega, by go_num, by simp [hs]; try omega⟩
          case measure => simp [intOf]; omega
        · rcases (show (-1099511627776 ≤ x ∧ x ≤ 1099511627776) ∨ x < -1099511627776 ∨ (-1099511627776 ≤ x ∧ 1099511627776 < x) by omega) with ⟨g1, g2⟩ | g1 | ⟨g1, g2⟩
          all_goals
            have hv : inB 1099511627776 x = _ := (by first | exact inB_yes g1 g2 | exact inB_lo (by omega) | exact inB_hi (by omega))
            rw [hv] at hs
            clear hv
            go_wp2
            go_round
            case rel => exact ⟨k + 1, by omega, by go_num, by simp [hs]; try omega⟩
            case measure => simp [intOf]; omega
      · obtain rfl : k = 3 := by omega
        clear idx
        go_wp2
        go_ret
        exact ⟨rfl, (Below.refl _ _).alloc (Nat.le_refl _) _⟩
end Go.Proofs.Ytppkbnajpeoaaaa
