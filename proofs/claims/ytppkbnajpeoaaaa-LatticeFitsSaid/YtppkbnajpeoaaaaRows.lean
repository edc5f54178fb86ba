/-
  No cell of these rows narrows 'for every input' (looked for: loops, veiled, ifaces, maps, wideKeys, modest, calm, conditions, laid).
  DERIVED. THE GIVEN ROWS OF THIS SEAT. 8 by the template 'for every input the law returns true; each argument reads behind the call as it read before'; 0 by the template 'total and deterministic' (their statements: YtppkbnajpeoaaaaTotals.lean).
  GIVEN WITH THE SEED: the statements are not yours to turn. If you find one false, say at which input.
  Laid BY PROGRAM, IN A SANDBOX (cutbox-rows.mjs): the forced cells as the released guide's own fill.sh prints them over the translation 739572ccca50a5ce… (all of the seat's roots in one cut). By AI agents, Wed Nov 11 2026. No macro, syntax, notation, axiom, sorry.
-/
import Derived.Test.YtppkbnajpeoaaaaChecked
import GoSem.Claim
import GoSem.ClaimJoined
import GoSem.ClaimMapViews
import Derived.JoinedTies
import Derived.KernelRfl
namespace Go.Proofs.Ytppkbnajpeoaaaa
/- THE CELL 'sum', in the pinned program and in every row, IS THE sha256 OF THE DUMP (.gsa) THAT YtppkbnajpeoaaaaProg.lean LOADS. Nothing in Lean hashes anything: it is a label: what it is worth is what the hold of that sum in a sandbox is worth. -/
noncomputable def Try.pinned : Pinned := { name := "ytppkbnajpeoaaaa", sum := "739572ccca50a5ce4fa37b2ad67cdbe9cd2bbdfbb3046730992f4e5fa0223a34", checked := Try.checked }
namespace Rows
def none {H : Type} : Left H := { results := [], args := [] }

/-- 'gypsumlaw27.LatticeSnaps': WHATEVER THE INPUT: true; the input reads as it did. -/
def latticeSnapsSpec : ChangeSpec := { name := "latticeSnaps", fn := fun _ => fun
  | [d1, d2] => { results := [.lit (.bool true)], args := [d1, d2] }
  | _ => none }
def latticeSnapsRow : OpenClaim := { program := "ytppkbnajpeoaaaa", sum := "739572ccca50a5ce4fa37b2ad67cdbe9cd2bbdfbb3046730992f4e5fa0223a34", func := "gypsum/gypsumlaw27.LatticeSnaps", spec := "latticeSnaps", unfollowed := true, recurses := true, apart := false }
def LatticeSnapsSaid : Prop := latticeSnapsRow.holds Try.pinned (OpenSpec.ofChange latticeSnapsSpec)

/-- ITS FALSE NEIGHBOUR: 'it returns false'. Refute it at one input. -/
def latticeSnapsWrong : ChangeSpec := { name := "latticeSnaps", fn := fun _ => fun
  | [d1, d2] => { results := [.lit (.bool false)], args := [d1, d2] }
  | _ => none }
def LatticeSnapsWrongFalsely : Prop := latticeSnapsRow.holds Try.pinned (OpenSpec.ofChange latticeSnapsWrong)

/-- 'gypsumlaw27.LatticeOrder': WHATEVER THE INPUT: true; the input reads as it did. -/
def latticeOrderSpec : ChangeSpec := { name := "latticeOrder", fn := fun _ => fun
  | [d1, d2, d3] => { results := [.lit (.bool true)], args := [d1, d2, d3] }
  | _ => none }
def latticeOrderRow : OpenClaim := { program := "ytppkbnajpeoaaaa", sum := "739572ccca50a5ce4fa37b2ad67cdbe9cd2bbdfbb3046730992f4e5fa0223a34", func := "gypsum/gypsumlaw27.LatticeOrder", spec := "latticeOrder", unfollowed := true, recurses := true, apart := false }
def LatticeOrderSaid : Prop := latticeOrderRow.holds Try.pinned (OpenSpec.ofChange latticeOrderSpec)

/-- ITS FALSE NEIGHBOUR: 'it returns false'. Refute it at one input. -/
def latticeOrderWrong : ChangeSpec := { name := "latticeOrder", fn := fun _ => fun
  | [d1, d2, d3] => { results := [.lit (.bool false)], args := [d1, d2, d3] }
  | _ => none }
def LatticeOrderWrongFalsely : Prop := latticeOrderRow.holds Try.pinned (OpenSpec.ofChange latticeOrderWrong)

/-- 'gypsumlaw27.LatticeFar': WHATEVER THE INPUT: true; the input reads as it did. -/
def latticeFarSpec : ChangeSpec := { name := "latticeFar", fn := fun _ => fun
  | [d1, d2] => { results := [.lit (.bool true)], args := [d1, d2] }
  | _ => none }
def latticeFarRow : OpenClaim := { program := "ytppkbnajpeoaaaa", sum := "739572ccca50a5ce4fa37b2ad67cdbe9cd2bbdfbb3046730992f4e5fa0223a34", func := "gypsum/gypsumlaw27.LatticeFar", spec := "latticeFar", unfollowed := true, recurses := true, apart := false }
def LatticeFarSaid : Prop := latticeFarRow.holds Try.pinned (OpenSpec.ofChange latticeFarSpec)

/-- ITS FALSE NEIGHBOUR: 'it returns false'. Refute it at one input. -/
def latticeFarWrong : ChangeSpec := { name := "latticeFar", fn := fun _ => fun
  | [d1, d2] => { results := [.lit (.bool false)], args := [d1, d2] }
  | _ => none }
def LatticeFarWrongFalsely : Prop := latticeFarRow.holds Try.pinned (OpenSpec.ofChange latticeFarWrong)

/-- 'gypsumlaw27.LatticeThree': WHATEVER THE INPUT: true; the input reads as it did. -/
def latticeThreeSpec : ChangeSpec := { name := "latticeThree", fn := fun _ => fun
  | [d1, d2, d3, d4] => { results := [.lit (.bool true)], args := [d1, d2, d3, d4] }
  | _ => none }
def latticeThreeRow : OpenClaim := { program := "ytppkbnajpeoaaaa", sum := "739572ccca50a5ce4fa37b2ad67cdbe9cd2bbdfbb3046730992f4e5fa0223a34", func := "gypsum/gypsumlaw27.LatticeThree", spec := "latticeThree", unfollowed := true, recurses := true, apart := false }
def LatticeThreeSaid : Prop := latticeThreeRow.holds Try.pinned (OpenSpec.ofChange latticeThreeSpec)

/-- ITS FALSE NEIGHBOUR: 'it returns false'. Refute it at one input. -/
def latticeThreeWrong : ChangeSpec := { name := "latticeThree", fn := fun _ => fun
  | [d1, d2, d3, d4] => { results := [.lit (.bool false)], args := [d1, d2, d3, d4] }
  | _ => none }
def LatticeThreeWrongFalsely : Prop := latticeThreeRow.holds Try.pinned (OpenSpec.ofChange latticeThreeWrong)

/-- 'gypsumlaw27.LatticeReal': WHATEVER THE INPUT: true; the input reads as it did. -/
def latticeRealSpec : ChangeSpec := { name := "latticeReal", fn := fun _ => fun
  | [d1, d2] => { results := [.lit (.bool true)], args := [d1, d2] }
  | _ => none }
def latticeRealRow : OpenClaim := { program := "ytppkbnajpeoaaaa", sum := "739572ccca50a5ce4fa37b2ad67cdbe9cd2bbdfbb3046730992f4e5fa0223a34", func := "gypsum/gypsumlaw27.LatticeReal", spec := "latticeReal", unfollowed := true, recurses := true, apart := false }
def LatticeRealSaid : Prop := latticeRealRow.holds Try.pinned (OpenSpec.ofChange latticeRealSpec)

/-- ITS FALSE NEIGHBOUR: 'it returns false'. Refute it at one input. -/
def latticeRealWrong : ChangeSpec := { name := "latticeReal", fn := fun _ => fun
  | [d1, d2] => { results := [.lit (.bool false)], args := [d1, d2] }
  | _ => none }
def LatticeRealWrongFalsely : Prop := latticeRealRow.holds Try.pinned (OpenSpec.ofChange latticeRealWrong)

/-- 'gypsumlaw27.LatticeNear': WHATEVER THE INPUT: true; the input reads as it did. -/
def latticeNearSpec : ChangeSpec := { name := "latticeNear", fn := fun _ => fun
  | [d1, d2] => { results := [.lit (.bool true)], args := [d1, d2] }
  | _ => none }
def latticeNearRow : OpenClaim := { program := "ytppkbnajpeoaaaa", sum := "739572ccca50a5ce4fa37b2ad67cdbe9cd2bbdfbb3046730992f4e5fa0223a34", func := "gypsum/gypsumlaw27.LatticeNear", spec := "latticeNear", unfollowed := true, recurses := true, apart := false }
def LatticeNearSaid : Prop := latticeNearRow.holds Try.pinned (OpenSpec.ofChange latticeNearSpec)

/-- ITS FALSE NEIGHBOUR: 'it returns false'. Refute it at one input. -/
def latticeNearWrong : ChangeSpec := { name := "latticeNear", fn := fun _ => fun
  | [d1, d2] => { results := [.lit (.bool false)], args := [d1, d2] }
  | _ => none }
def LatticeNearWrongFalsely : Prop := latticeNearRow.holds Try.pinned (OpenSpec.ofChange latticeNearWrong)

/-- 'gypsumlaw27.LatticeBox': WHATEVER THE INPUT: true; the input reads as it did. -/
def latticeBoxSpec : ChangeSpec := { name := "latticeBox", fn := fun _ => fun
  | [d] => { results := [.lit (.bool true)], args := [d] }
  | _ => none }
def latticeBoxRow : OpenClaim := { program := "ytppkbnajpeoaaaa", sum := "739572ccca50a5ce4fa37b2ad67cdbe9cd2bbdfbb3046730992f4e5fa0223a34", func := "gypsum/gypsumlaw27.LatticeBox", spec := "latticeBox", unfollowed := true, recurses := true, apart := false }
def LatticeBoxSaid : Prop := latticeBoxRow.holds Try.pinned (OpenSpec.ofChange latticeBoxSpec)

/-- ITS FALSE NEIGHBOUR: 'it returns false'. Refute it at one input. -/
def latticeBoxWrong : ChangeSpec := { name := "latticeBox", fn := fun _ => fun
  | [d] => { results := [.lit (.bool false)], args := [d] }
  | _ => none }
def LatticeBoxWrongFalsely : Prop := latticeBoxRow.holds Try.pinned (OpenSpec.ofChange latticeBoxWrong)

/-- 'gypsumlaw27.LatticeFits': WHATEVER THE INPUT: true; the input reads as it did. -/
def latticeFitsSpec : ChangeSpec := { name := "latticeFits", fn := fun _ => fun
  | [d1, d2] => { results := [.lit (.bool true)], args := [d1, d2] }
  | _ => none }
def latticeFitsRow : OpenClaim := { program := "ytppkbnajpeoaaaa", sum := "739572ccca50a5ce4fa37b2ad67cdbe9cd2bbdfbb3046730992f4e5fa0223a34", func := "gypsum/gypsumlaw27.LatticeFits", spec := "latticeFits", unfollowed := true, recurses := true, apart := false }
def LatticeFitsSaid : Prop := latticeFitsRow.holds Try.pinned (OpenSpec.ofChange latticeFitsSpec)

/-- ITS FALSE NEIGHBOUR: 'it returns false'. Refute it at one input. -/
def latticeFitsWrong : ChangeSpec := { name := "latticeFits", fn := fun _ => fun
  | [d1, d2] => { results := [.lit (.bool false)], args := [d1, d2] }
  | _ => none }
def LatticeFitsWrongFalsely : Prop := latticeFitsRow.holds Try.pinned (OpenSpec.ofChange latticeFitsWrong)

/- THE SECOND FORM. 'bulk': how many values and letters a reading holds, each counted each time it is reached (what is shared counts as often as it is met; a slice's spare places count too). A statement '..UptoSaid' is the law's where the arguments, and the package variables that the reading takes, are together of bulk at most 1048576: NARROWER than '..Said'. Prove '..Said' where nothing that the law and all that it calls make is longer than what came in: it says more and counts as full. Else prove '..UptoSaid'. A law counts once. -/
mutual
def uptoBulk {H : Type} : DataW H → Nat
  | .lit (.string bytes) => bytes.length + 1
  | .lit _ => 1
  | .nil => 1
  | .ptr d => uptoBulk d + 1
  | .slice elems spare => uptoBulkAll elems + uptoBulkAll spare + 1
  | .agg parts => uptoBulkAll parts + 1
  | .iface _ d => uptoBulk d + 1
  | .map entries => uptoBulkEntries entries + 1
  | .held _ => 1
def uptoBulkAll {H : Type} : List (DataW H) → Nat
  | [] => 0
  | d :: r => uptoBulk d + uptoBulkAll r
def uptoBulkEntries {H : Type} : List (Lit × DataW H) → Nat
  | [] => 0
  | x :: r => uptoBulkEntry x + uptoBulkEntries r
def uptoBulkEntry {H : Type} : Lit × DataW H → Nat
  | (.string bytes, d) => bytes.length + uptoBulk d + 1
  | (_, d) => uptoBulk d + 1
 end
def uptoSmall : (H : Type) → List (DataW H) → Bool := fun _ ds => decide (uptoBulkAll ds ≤ 1048576)
def OpenSpec.upto (s : _root_.Go.ChangeSpec) : _root_.Go.OpenSpec := { _root_.Go.OpenSpec.ofChange s with cond := some uptoSmall }

/-- 'gypsumlaw27.LatticeSnaps', WHERE WHAT IT READS IS OF BULK AT MOST 1048576: true; the input reads as it did. -/
def latticeSnapsUptoRow : OpenClaim := { program := "ytppkbnajpeoaaaa", sum := "739572ccca50a5ce4fa37b2ad67cdbe9cd2bbdfbb3046730992f4e5fa0223a34", func := "gypsum/gypsumlaw27.LatticeSnaps", spec := "latticeSnaps", unfollowed := true, recurses := true, apart := false, narrowed := true }
def LatticeSnapsUptoSaid : Prop := latticeSnapsUptoRow.holds Try.pinned (OpenSpec.upto latticeSnapsSpec)

/-- 'gypsumlaw27.LatticeOrder', WHERE WHAT IT READS IS OF BULK AT MOST 1048576: true; the input reads as it did. -/
def latticeOrderUptoRow : OpenClaim := { program := "ytppkbnajpeoaaaa", sum := "739572ccca50a5ce4fa37b2ad67cdbe9cd2bbdfbb3046730992f4e5fa0223a34", func := "gypsum/gypsumlaw27.LatticeOrder", spec := "latticeOrder", unfollowed := true, recurses := true, apart := false, narrowed := true }
def LatticeOrderUptoSaid : Prop := latticeOrderUptoRow.holds Try.pinned (OpenSpec.upto latticeOrderSpec)

/-- 'gypsumlaw27.LatticeFar', WHERE WHAT IT READS IS OF BULK AT MOST 1048576: true; the input reads as it did. -/
def latticeFarUptoRow : OpenClaim := { program := "ytppkbnajpeoaaaa", sum := "739572ccca50a5ce4fa37b2ad67cdbe9cd2bbdfbb3046730992f4e5fa0223a34", func := "gypsum/gypsumlaw27.LatticeFar", spec := "latticeFar", unfollowed := true, recurses := true, apart := false, narrowed := true }
def LatticeFarUptoSaid : Prop := latticeFarUptoRow.holds Try.pinned (OpenSpec.upto latticeFarSpec)

/-- 'gypsumlaw27.LatticeThree', WHERE WHAT IT READS IS OF BULK AT MOST 1048576: true; the input reads as it did. -/
def latticeThreeUptoRow : OpenClaim := { program := "ytppkbnajpeoaaaa", sum := "739572ccca50a5ce4fa37b2ad67cdbe9cd2bbdfbb3046730992f4e5fa0223a34", func := "gypsum/gypsumlaw27.LatticeThree", spec := "latticeThree", unfollowed := true, recurses := true, apart := false, narrowed := true }
def LatticeThreeUptoSaid : Prop := latticeThreeUptoRow.holds Try.pinned (OpenSpec.upto latticeThreeSpec)

/-- 'gypsumlaw27.LatticeReal', WHERE WHAT IT READS IS OF BULK AT MOST 1048576: true; the input reads as it did. -/
def latticeRealUptoRow : OpenClaim := { program := "ytppkbnajpeoaaaa", sum := "739572ccca50a5ce4fa37b2ad67cdbe9cd2bbdfbb3046730992f4e5fa0223a34", func := "gypsum/gypsumlaw27.LatticeReal", spec := "latticeReal", unfollowed := true, recurses := true, apart := false, narrowed := true }
def LatticeRealUptoSaid : Prop := latticeRealUptoRow.holds Try.pinned (OpenSpec.upto latticeRealSpec)

/-- 'gypsumlaw27.LatticeNear', WHERE WHAT IT READS IS OF BULK AT MOST 1048576: true; the input reads as it did. -/
def latticeNearUptoRow : OpenClaim := { program := "ytppkbnajpeoaaaa", sum := "739572ccca50a5ce4fa37b2ad67cdbe9cd2bbdfbb3046730992f4e5fa0223a34", func := "gypsum/gypsumlaw27.LatticeNear", spec := "latticeNear", unfollowed := true, recurses := true, apart := false, narrowed := true }
def LatticeNearUptoSaid : Prop := latticeNearUptoRow.holds Try.pinned (OpenSpec.upto latticeNearSpec)

/-- 'gypsumlaw27.LatticeBox', WHERE WHAT IT READS IS OF BULK AT MOST 1048576: true; the input reads as it did. -/
def latticeBoxUptoRow : OpenClaim := { program := "ytppkbnajpeoaaaa", sum := "739572ccca50a5ce4fa37b2ad67cdbe9cd2bbdfbb3046730992f4e5fa0223a34", func := "gypsum/gypsumlaw27.LatticeBox", spec := "latticeBox", unfollowed := true, recurses := true, apart := false, narrowed := true }
def LatticeBoxUptoSaid : Prop := latticeBoxUptoRow.holds Try.pinned (OpenSpec.upto latticeBoxSpec)

/-- 'gypsumlaw27.LatticeFits', WHERE WHAT IT READS IS OF BULK AT MOST 1048576: true; the input reads as it did. -/
def latticeFitsUptoRow : OpenClaim := { program := "ytppkbnajpeoaaaa", sum := "739572ccca50a5ce4fa37b2ad67cdbe9cd2bbdfbb3046730992f4e5fa0223a34", func := "gypsum/gypsumlaw27.LatticeFits", spec := "latticeFits", unfollowed := true, recurses := true, apart := false, narrowed := true }
def LatticeFitsUptoSaid : Prop := latticeFitsUptoRow.holds Try.pinned (OpenSpec.upto latticeFitsSpec)

end Rows
end Go.Proofs.Ytppkbnajpeoaaaa
