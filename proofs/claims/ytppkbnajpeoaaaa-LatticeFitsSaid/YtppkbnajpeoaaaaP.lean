/- Arguments opened: points, lattices; what the rows share. -/
import Derived.Test.YtppkbnajpeoaaaaRows
import Derived.WalkKit
import Derived.ProofKit
import Derived.OpenShut
import Derived.ChangeOld
import Derived.Below
import Derived.Laws.IdiomArrays
namespace Go.Proofs.Ytppkbnajpeoaaaa
open Go.ChangeShapes Go.WideShapes Go.ChangeAt Go.RowKit

theorem Try.own : ownKnob Try.prog.godebug = none := by kernel_rfl
theorem Try.laidOut : laidOutB Try.prog = true := by kernel_rfl
theorem Try.cells3 : Try.prog.cellsOf 3 = 1 := by kernel_rfl
theorem Try.cells23 : Try.prog.cellsOf 23 = 3 := by kernel_rfl
theorem Try.cells22 : Try.prog.cellsOf 22 = 3 := by kernel_rfl
theorem Try.cells25 : Try.prog.cellsOf 25 = 4 := by kernel_rfl

section
variable {H : Type} {enc : TypeId × Value → H} {w : World} {base : Nat} {spare : Nat → Bool} {held : Bool}
def i64ok (n : Int) : Prop := (Lit.int .i64 n).wf = true
theorem i64ok.bd {n : Int} (h : i64ok n) : -9223372036854775808 ≤ n ∧ n ≤ 9223372036854775807 := by
  unfold i64ok at h
  exact bounds_i64 h
theorem arr3_of (t : TypeId) (ht : Try.prog.underlying t = some (.array 3 3)) {fuel : Nat} {c0 c1 c2 : Value} {x : DataW H × List MemPlace}
    (h : DataW.trod enc Try.prog w base spare held fuel t [c0, c1, c2] = some x) : ∃ a b c, c0 = .int .i64 a ∧ c1 = .int .i64 b ∧ c2 = .int .i64 c ∧ i64ok a ∧ i64ok b ∧ i64ok c := by
  obtain ⟨y0, y1, y2, n, _, h0, h1, h2⟩ := trod_array3 ht Try.cells3 h
  obtain ⟨a, e0, _, w0⟩ := DataW.trod_int Try.underlying3 h0
  obtain ⟨b, e1, _, w1⟩ := DataW.trod_int Try.underlying3 h1
  obtain ⟨c, e2, _, w2⟩ := DataW.trod_int Try.underlying3 h2
  simp at e0 e1 e2
  exact ⟨a, b, c, e0, e1, e2, w0, w1, w2⟩
theorem open_arr3 (t : TypeId) (ht : Try.prog.underlying t = some (.array 3 3)) (hc : Try.prog.cellsOf t = 3) {r : Reach} {b0 : Nat} {v : Value} {d : DataW H} {p : List MemPlace}
    (hv : Value.okWide Try.prog w r b0 t v) (h : DataW.Trod enc Try.prog w base spare held t v d p) : ∃ a b c, v = .agg #[.int .i64 a, .int .i64 b, .int .i64 c] ∧ i64ok a ∧ i64ok b ∧ i64ok c := by
  simp only [Value.okWide, ht] at hv
  obtain ⟨⟨l⟩, rfl, hsz, _⟩ := hv
  rw [hc] at hsz
  match l, hsz with
  | [c0, c1, c2], _ =>
    obtain ⟨fuel, hf⟩ := h
    obtain ⟨a, b, c, rfl, rfl, rfl, h1, h2, h3⟩ := arr3_of t ht hf
    exact ⟨a, b, c, rfl, h1, h2, h3⟩
theorem open_lat {r : Reach} {b0 : Nat} {v : Value} {d : DataW H} {p : List MemPlace}
    (hv : Value.okWide Try.prog w r b0 25 v) (h : DataW.Trod enc Try.prog w base spare held 25 v d p) : ∃ s a b c, v = .agg #[.int .i64 s, .int .i64 a, .int .i64 b, .int .i64 c] ∧ i64ok s ∧ i64ok a ∧ i64ok b ∧ i64ok c := by
  obtain ⟨⟨l⟩, rfl, hsz⟩ := okWide_struct Try.underlying25 hv
  rw [Try.cells25] at hsz
  match l, hsz with
  | [c0, c1, c2, c3], _ =>
    obtain ⟨fuel, hf⟩ := h
    obtain ⟨ys, n, _, _, _, hy, hg⟩ := DataW.trod_struct Try.underlying25 hf
    have g0 : DataW.trod enc Try.prog w base spare held n 3 [c0] = ys[0]? := by
      have := hg 0 _ rfl
      simpa [Try.cells3, Value.cells] using this
    have g1 : DataW.trod enc Try.prog w base spare held n 23 [c1, c2, c3] = ys[1]? := by
      have := hg 1 _ rfl
      simpa [Try.cells23, Value.cells] using this
    match ys, hy with
    | [y0, y1], _ =>
      obtain ⟨s, e0, _, w0⟩ := DataW.trod_int Try.underlying3 g0
      obtain ⟨a, b, c, rfl, rfl, rfl, h1, h2, h3⟩ := arr3_of 23 Try.underlying23 g1
      simp at e0
      subst e0
      exact ⟨s, a, b, c, rfl, w0, h1, h2, h3⟩
end
end Go.Proofs.Ytppkbnajpeoaaaa
