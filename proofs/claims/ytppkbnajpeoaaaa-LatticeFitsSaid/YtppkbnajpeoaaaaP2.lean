/- A slice of points opened: its cells by the point's and the coordinate's number. -/
import Derived.Test.YtppkbnajpeoaaaaP
import Derived.Deep.Slices
namespace Go.Proofs.Ytppkbnajpeoaaaa
open Go.ChangeShapes Go.WideShapes Go.ChangeAt Go.RowKit Go.Deep

/-- what a slice of points is: nil, or a row of cells, three to a point -/
def IsPts (w : World) (v : Value) : Prop :=
  (∃ (A : Option Addr) (cap : Nat), v = .slice A 0 cap) ∨ ∃ (b off len cap : Nat) (f : Nat → Nat → Int), v = .slice (some ⟨b, off, none⟩) len cap ∧ 0 < len ∧ len ≤ cap ∧ cap ≤ maxLen ∧
    (∀ i k, i < len → k < 3 → w.cell? ⟨b, off + i * 3 + k, none⟩ = some (.int .i64 (f i k))) ∧ (∀ i k, i < len → k < 3 → i64ok (f i k))
section
variable {H : Type} {enc : TypeId × Value → H} {w : World} {base : Nat} {spare : Nat → Bool} {held : Bool}
theorem open_pts (t e : TypeId) (ht : Try.prog.underlying t = some (.slice e)) (he : Try.prog.underlying e = some (.array 3 3)) (hce : Try.prog.cellsOf e = 3) {r : Reach} {b0 : Nat} {v : Value} {d : DataW H} {p : List MemPlace}
    (hv : Value.okWide Try.prog w r b0 t v) (h : DataW.Trod enc Try.prog w base spare held t v d p) : IsPts w v := by
  obtain ⟨A, len, cap, rfl⟩ := okWide_slice ht hv
  obtain ⟨fuel, hf⟩ := h
  rcases open_slice ht hf with ⟨hcs, _⟩ | ⟨a, len', cap', m, n, D, Pl, hcs, _, hlc, hcm, hm, _, hi⟩
  · simp [Value.cells] at hcs
    obtain ⟨rfl, rfl, rfl⟩ := hcs
    exact .inl ⟨_, _, rfl⟩
  simp [Value.cells] at hcs
  obtain ⟨rfl, rfl, rfl⟩ := hcs
  have hlm : len ≤ m := by rw [hm]; split <;> omega
  have hall : ∀ i, i < m → ∃ x : Int × Int × Int, (w.cell? (a.add (i * 3)) = some (.int .i64 x.1) ∧ w.cell? (a.add (i * 3 + 1)) = some (.int .i64 x.2.1) ∧ w.cell? (a.add (i * 3 + 2)) = some (.int .i64 x.2.2)) ∧ i64ok x.1 ∧ i64ok x.2.1 ∧ i64ok x.2.2 := by
    intro i him
    obtain ⟨cs', hc, htr⟩ := hi i him
    rw [hce] at hc
    obtain ⟨_, hcl, hat⟩ := World.cells?_some hc
    match cs', hcl with
    | [c0, c1, c2], _ =>
      obtain ⟨x, y, z, rfl, rfl, rfl, h1, h2, h3⟩ := arr3_of e he htr
      have g0 := hat 0 (by omega)
      have g1 := hat 1 (by omega)
      have g2 := hat 2 (by omega)
      rw [add_add] at g0 g1 g2
      exact ⟨(x, y, z), ⟨g0, g1, g2⟩, h1, h2, h3⟩
  obtain ⟨F, hF⟩ := choose_lt hall
  by_cases h0 : 0 < len
  · obtain ⟨b, off, spot⟩ := a
    have hc := (hF 0 (by omega)).1.1
    have hspot : spot = none := by simpa [Addr.add] using World.cell?_spot hc
    subst hspot
    have add_ : ∀ j, (⟨b, off, none⟩ : Addr).add j = ⟨b, off + j, none⟩ := by
      intro j
      unfold Addr.add
      split
      · rename_i h; subst h; rfl
      · rfl
    refine .inr ⟨b, off, len, cap, fun i k => if k = 0 then (F i).1 else if k = 1 then (F i).2.1 else (F i).2.2, rfl, h0, hlc, hcm, ?_, ?_⟩
    · intro i k hi hk
      have := (hF i (by omega)).1
      rw [add_, add_, add_] at this
      rcases (show k = 0 ∨ k = 1 ∨ k = 2 by omega) with rfl | rfl | rfl
      · exact this.1
      · simpa [Nat.add_assoc] using this.2.1
      · simpa [Nat.add_assoc] using this.2.2
    · intro i k hi hk
      have := (hF i (by omega)).2
      rcases (show k = 0 ∨ k = 1 ∨ k = 2 by omega) with rfl | rfl | rfl
      · exact this.1
      · simpa using this.2.1
      · simpa using this.2.2
  · obtain rfl : len = 0 := by omega
    exact .inl ⟨_, _, rfl⟩
end
end Go.Proofs.Ytppkbnajpeoaaaa
