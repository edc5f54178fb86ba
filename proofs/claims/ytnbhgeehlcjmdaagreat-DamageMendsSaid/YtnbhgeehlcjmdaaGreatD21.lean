/- Arguments opened: bytes, chunks; what the row shares. -/
import Derived.Test.YtnbhgeehlcjmdaaGreatD10
import Derived.ProofKit
import Derived.OpenShut
import Derived.ChangeOld
import Derived.Deep.Slices
namespace Go.Proofs.YtnbhgeehlcjmdaaGreat
open Go.ChangeShapes Go.WideShapes Go.ChangeAt Go.RowKit Go.Deep

theorem Tryz.own : ownKnob Tryz.prog.godebug = none := by kernel_rfl
theorem Tryz.laidOut : laidOutB Tryz.prog = true := by kernel_rfl
theorem Tryz.cells5 : Tryz.prog.cellsOf 5 = 1 := by kernel_rfl
theorem Tryz.cells27 : Tryz.prog.cellsOf 27 = 2 := by kernel_rfl
theorem Tryz.cells25 : Tryz.prog.cellsOf 25 = 1 := by kernel_rfl

section
variable {H : Type} {enc : TypeId × Value → H} {w : World} {base : Nat} {spare : Nat → Bool} {held : Bool}
theorem u8_nat {n : Int} (h : (Lit.int .u8 n).wf = true) : ∃ x : Nat, n = (x : Int) ∧ x < 256 := by
  have := bounds_u8 h
  exact ⟨n.toNat, by omega, by omega⟩
theorem u32_nat {n : Int} (h : (Lit.int .u32 n).wf = true) : ∃ x : Nat, n = (x : Int) ∧ x < 4294967296 := by
  have := bounds_u32 h
  exact ⟨n.toNat, by omega, by omega⟩
/-- bytes, as a slice of them is read -/
theorem bytes_of {fuel : Nat} {cs : List Value} {x : DataW H × List MemPlace} (h : DataW.trod enc Tryz.prog w base spare held fuel 25 cs = some x) :
    ∃ A c xs, cs = [.slice A (xs : List Nat).length c] ∧ Byt w A xs ∧ xs.length ≤ c ∧ c ≤ maxLen ∧ (A = none → xs = []) ∧ ∀ a, A = some a → 0 < xs.length → ∃ b off, a = ⟨b, off, none⟩ ∧ b < w.heap.size := by
  rcases open_ints Tryz.underlying25 Tryz.underlying5 Tryz.cells5 h with ⟨rfl, _⟩ | ⟨a, len, cap, zs, rfl, _, hlc, hcm, hzl, _, hcell, hwf⟩
  · exact ⟨none, 0, [], rfl, Byt.nil _ _, by simp, by decide, fun _ => rfl, by simp⟩
  · have hz : len ≤ zs.length := by rw [hzl]; split <;> omega
    have hg : ∀ i, i < len → ∃ x : Nat, zs.getD i 0 = (x : Int) ∧ x < 256 := fun i hi => by
      have hm : zs.getD i 0 ∈ zs := by
        rw [getD_at _ _ _ (by omega)]
        exact List.getElem_mem _
      exact u8_nat (hwf _ hm)
    have hspot : 0 < len → ∃ b off, a = ⟨b, off, none⟩ := fun h0 => by
      have hc := hcell 0 (by omega)
      obtain ⟨b, off, spot⟩ := a
      have : spot = none := by simpa [Addr.add] using World.cell?_spot hc
      exact ⟨b, off, by rw [this]⟩
    refine ⟨some a, cap, (zs.take len).map Int.toNat, ?_, ?_, by simp; omega, hcm, by simp, ?_⟩
    · have : ((zs.take len).map Int.toNat).length = len := by simp; omega
      rw [this]
    · refine ⟨fun x hx => ?_, fun h0 => ?_⟩
      · simp only [List.mem_map] at hx
        obtain ⟨z, hz', rfl⟩ := hx
        have := bounds_u8 (hwf z (List.mem_of_mem_take hz'))
        omega
      · have h0' : 0 < len := by simp at h0; omega
        obtain ⟨b, off, rfl⟩ := hspot h0'
        refine ⟨b, off, rfl, fun i hi => ?_⟩
        have hil : i < len := by simp at hi; omega
        have hc := hcell i (by omega)
        rw [add_at] at hc
        rw [hc]
        obtain ⟨x, hx, _⟩ := hg i hil
        have : ((zs.take len).map Int.toNat).getD i 0 = x := by
          have hzi : zs[i]? = some (x : Int) := by
            rw [List.getElem?_eq_getElem (by omega), ← getD_at _ _ (0 : Int) (by omega), hx]
          simp [List.getD, hil, hzi]
        rw [this, hx]
    · intro a' ha' h0
      injection ha' with ha'
      subst ha'
      have h0' : 0 < len := by simp at h0; omega
      obtain ⟨b, off, rfl⟩ := hspot h0'
      have hc := hcell 0 (by omega)
      rw [add_at] at hc
      exact ⟨b, off, rfl, World.block_lt_of_cell? _ _ hc⟩
set_option maxRecDepth 100000 in
theorem open_bytes {r : Reach} {b0 : Nat} {v : Value} {d : DataW H} {p : List MemPlace} (hv : Value.okWide Tryz.prog w r b0 25 v) (h : DataW.Trod enc Tryz.prog w base spare held 25 v d p) :
    ∃ A c xs, v = .slice A (xs : List Nat).length c ∧ Byt w A xs ∧ xs.length ≤ c ∧ (A = none → xs = []) := by
  obtain ⟨A, len, cap, rfl⟩ := okWide_slice Tryz.underlying25 hv
  obtain ⟨fuel, hf⟩ := h
  obtain ⟨A', c', xs, hcs, hB, hl, _, hn, _⟩ := bytes_of hf
  simp [Value.cells] at hcs
  obtain ⟨rfl, rfl, rfl⟩ := hcs
  exact ⟨_, _, xs, rfl, hB, hl, hn⟩
set_option maxRecDepth 100000 in
/-- chunks, as a slice of them is read -/
theorem open_cks {r : Reach} {b0 : Nat} {v : Value} {d : DataW H} {p : List MemPlace} (hv : Value.okWide Tryz.prog w r b0 22 v) (h : DataW.Trod enc Tryz.prog w base spare held 22 v d p) :
    ∃ A c cs, v = .slice A (cs : List (Nat × List Nat)).length c ∧ Cks w A cs ∧ cs.length ≤ maxLen ∧ ∀ i, i < cs.length → (cs.getD i default).2.length ≤ maxLen := by
  obtain ⟨A, len, cap, rfl⟩ := okWide_slice Tryz.underlying22 hv
  obtain ⟨fuel, hf⟩ := h
  rcases open_slice Tryz.underlying22 hf with ⟨hcs, _⟩ | ⟨a, len', cap', m, n, D, Pl, hcs, _, hlc, hcm, hm, _, hi⟩
  · simp [Value.cells] at hcs
    obtain ⟨rfl, rfl, rfl⟩ := hcs
    exact ⟨none, 0, [], rfl, fun h => absurd h (by simp), by simp, by simp⟩
  simp [Value.cells] at hcs
  obtain ⟨rfl, rfl, rfl⟩ := hcs
  have hlm : len ≤ m := by rw [hm]; split <;> omega
  have hall : ∀ i, i < m → ∃ x : Nat × List Nat, (w.cell? (a.add (i * 2)) = some (.int .u8 ((x.1 : Nat) : Int)) ∧ x.1 < 256 ∧ ∃ P c, w.cell? (a.add (i * 2 + 1)) = some (.slice P x.2.length c) ∧ Byt w P x.2 ∧ x.2.length ≤ c ∧ c ≤ maxLen) := by
    intro i him
    obtain ⟨cs', hc, htr⟩ := hi i him
    rw [Tryz.cells27] at hc
    obtain ⟨_, hcl, hat⟩ := World.cells?_some hc
    match cs', hcl with
    | [c0, c1], _ =>
      obtain ⟨ys, n', _, _, _, hy, hg⟩ := DataW.trod_struct Tryz.underlying27 htr
      have g0 : DataW.trod enc Tryz.prog w base spare held n' 5 [c0] = ys[0]? := by
        have := hg 0 _ rfl
        simpa [Tryz.cells5, Value.cells] using this
      have g1 : DataW.trod enc Tryz.prog w base spare held n' 25 [c1] = ys[1]? := by
        have := hg 1 _ rfl
        simpa [Tryz.cells5, Tryz.cells25, Value.cells] using this
      match ys, hy with
      | [y0, y1], _ =>
        obtain ⟨b, e0, _, w0⟩ := DataW.trod_int Tryz.underlying5 g0
        obtain ⟨P, c, xs, e1, hB, hxc, hcm', _⟩ := bytes_of g1
        simp at e0 e1
        subst e0 e1
        obtain ⟨x, rfl, hx⟩ := u8_nat w0
        have q0 := hat 0 (by omega)
        have q1 := hat 1 (by omega)
        rw [add_add] at q0 q1
        exact ⟨⟨x, xs⟩, q0, hx, P, c, q1, hB, hxc, hcm'⟩
  obtain ⟨F, hF⟩ := choose_lt hall
  have hgd : ∀ i, i < len → ((List.range len).map F).getD i default = F i := fun i hi => by simp [List.getD, hi]
  refine ⟨some a, cap, (List.range len).map F, by simp, fun h0 => ?_, by simp; omega, fun i hi => ?_⟩
  · have h0' : 0 < len := by simpa using h0
    obtain ⟨b, off, spot⟩ := a
    have hc := (hF 0 (by omega)).1
    have hspot : spot = none := by simpa [Addr.add] using World.cell?_spot hc
    subst hspot
    refine ⟨b, off, rfl, fun i hi => ?_⟩
    have hi' : i < len := by simpa using hi
    rw [hgd i hi']
    obtain ⟨q0, q1, P, c, q3, q4, q5, _⟩ := hF i (by omega)
    rw [add_at] at q0 q3
    exact ⟨q0, q1, P, c, by rw [Nat.add_assoc]; exact q3, q4, q5⟩
  · have hi' : i < len := by simpa using hi
    rw [hgd i hi']
    obtain ⟨_, _, P, c, _, _, q5, q6⟩ := hF i (by omega)
    omega
end
end Go.Proofs.YtnbhgeehlcjmdaaGreat
