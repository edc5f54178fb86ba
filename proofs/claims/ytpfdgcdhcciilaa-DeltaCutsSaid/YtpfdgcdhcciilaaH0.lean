/- What bytes are read as: plain. -/
import Derived.Test.YtpfdgcdhcciilaaG3
namespace Go.Proofs.Ytpfdgcdhcciilaa
open Go.RowKit

def lenAt (r : List Nat) : Nat := valOf ((r.drop 5).take 4)
def oldAt (r : List Nat) : Nat := valOf ((r.drop 1).take 4)
def chgAt (r : List Nat) : Chg := ⟨((r.getD 0 0 : Nat) : Int), oldAt r, (r.drop 9).take (lenAt r)⟩
def parse : Nat → List Nat → Option (List Chg × List Nat)
  | 0, r => some ([], r)
  | n + 1, r => if r.length < 9 ∨ r.length < 9 + lenAt r then none else (parse n (r.drop (9 + lenAt r))).map fun p => (chgAt r :: p.1, p.2)
def pre (d : List Chg) (o : Option (List Chg × List Nat)) : Option (List Chg × List Nat) := o.map fun p => (d ++ p.1, p.2)
def decWith (xs : List Nat) : Option (List Chg × List Nat) → List Chg × Int
  | none => ([], 4)
  | some (l, r) => if r.length < 4 then ([], 4) else if 4 < r.length then ([], 5) else if valOf r ≠ sumOf (xs.take (xs.length - r.length)) then ([], 6) else if rightC l then (l, 0) else ([], 3)
def countOf (xs : List Nat) : Nat := valOf (xs.take 2)
def dec (xs : List Nat) : List Chg × Int := if xs.length < 2 then ([], 4) else decWith xs (parse (countOf xs) (xs.drop 2))

theorem parse_no {n : Nat} {r : List Nat} (h : r.length < 9 ∨ r.length < 9 + lenAt r) : parse (n + 1) r = none := by unfold parse; rw [if_pos h]
theorem parse_yes {n : Nat} {r : List Nat} (h : ¬ (r.length < 9 ∨ r.length < 9 + lenAt r)) : parse (n + 1) r = pre [chgAt r] (parse n (r.drop (9 + lenAt r))) := by rw [parse, if_neg h]; rfl
theorem pre_pre (a b : List Chg) (o : Option (List Chg × List Nat)) : pre a (pre b o) = pre (a ++ b) o := by
  rcases o with _ | ⟨l, r⟩
  · rfl
  · simp [pre]
/-- a round that goes on -/
theorem parse_round {xs : List Nat} {N p : Nat} {done : List Chg} (h : parse N (xs.drop 2) = pre done (parse (N - done.length) (xs.drop p))) (hk : done.length < N) (h9 : 9 + lenAt (xs.drop p) ≤ xs.length - p) :
    parse N (xs.drop 2) = pre (done ++ [chgAt (xs.drop p)]) (parse (N - (done ++ [chgAt (xs.drop p)]).length) (xs.drop (p + (9 + lenAt (xs.drop p))))) := by
  rw [h, show N - done.length = (N - (done.length + 1)) + 1 by omega, parse_yes (by rw [List.length_drop]; omega), pre_pre, List.drop_drop]
  simp
theorem parse_stop {xs : List Nat} {N p : Nat} {done : List Chg} (h : parse N (xs.drop 2) = pre done (parse (N - done.length) (xs.drop p))) (hk : done.length < N) (h9 : xs.length - p < 9 ∨ xs.length - p < 9 + lenAt (xs.drop p)) :
    parse N (xs.drop 2) = none := by
  rw [h, show N - done.length = (N - (done.length + 1)) + 1 by omega, parse_no (by rw [List.length_drop]; exact h9)]
  rfl
theorem parse_end {xs : List Nat} {N p : Nat} {done : List Chg} (h : parse N (xs.drop 2) = pre done (parse (N - done.length) (xs.drop p))) (hk : ¬ done.length < N) :
    parse N (xs.drop 2) = some (done, xs.drop p) := by
  rw [h, show N - done.length = 0 by omega]
  simp [parse, pre]
theorem dec_short {xs : List Nat} (h : xs.length < 2) : dec xs = ([], 4) := by unfold dec; rw [if_pos h]
theorem dec_none {xs : List Nat} (h2 : ¬ xs.length < 2) (h : parse (countOf xs) (xs.drop 2) = none) : dec xs = ([], 4) := by unfold dec; rw [if_neg h2, h]; rfl
theorem dec_some {xs : List Nat} {l : List Chg} {p : Nat} (h2 : ¬ xs.length < 2) (hp : p ≤ xs.length) (h : parse (countOf xs) (xs.drop 2) = some (l, xs.drop p)) :
    dec xs = if xs.length - p < 4 then ([], 4) else if 4 < xs.length - p then ([], 5) else if valOf (xs.drop p) ≠ sumOf (xs.take p) then ([], 6) else if rightC l then (l, 0) else ([], 3) := by
  unfold dec
  rw [if_neg h2, h]
  simp only [decWith, List.length_drop]
  rw [show xs.length - (xs.length - p) = p by omega]
end Go.Proofs.Ytpfdgcdhcciilaa
