/- The reference's Snap: a walk. A block of cells that is known whole. -/
import Derived.Test.YtppkbnajpeoaaaaA5
namespace Go.Proofs.Ytppkbnajpeoaaaa
open Go.RowKit

/-- block b holds just these cells, none of them frozen -/
def Rw (w : World) (b : Nat) (xs : List Value) : Prop := ∃ t, w.heap[b]? = some (.cells xs.toArray t (0, 0))
theorem Rw.lt {w : World} {b : Nat} {xs : List Value} (h : Rw w b xs) : b < w.heap.size := by
  obtain ⟨t, h⟩ := h
  exact (Array.getElem?_eq_some_iff.1 h).1
theorem Rw.cell {w : World} {b : Nat} {xs : List Value} (h : Rw w b xs) (i : Nat) : w.cell? ⟨b, i, none⟩ = xs[i]? := by
  obtain ⟨t, h⟩ := h
  rw [cell_of_row w _ i _ t (0, 0) h]
  simp
theorem Rw.frozen {w : World} {b : Nat} {xs : List Value} (h : Rw w b xs) (i : Nat) : w.frozen? ⟨b, i, none⟩ = false := by
  obtain ⟨t, h⟩ := h
  simp [World.frozen?, h]
theorem Rw.new (w : World) (t : TypeId) (xs : List Value) : Rw (w.alloc (.cells xs.toArray t)) w.heap.size xs := ⟨t, heap_alloc_new w _⟩
theorem Rw.drewN {w : World} {b : Nat} {xs : List Value} (h : Rw w b xs) (n : Nat) : Rw (w.drewN n) b xs := h
theorem Rw.alloc {w : World} {b : Nat} {xs : List Value} (h : Rw w b xs) (o : Obj) : Rw (w.alloc o) b xs := by
  have hl := h.lt
  obtain ⟨t, h⟩ := h
  exact ⟨t, (Below.heap_alloc w o b hl).trans h⟩
theorem Rw.set {w : World} {b : Nat} {xs : List Value} (h : Rw w b xs) (i : Nat) (u : Value) : Rw (w.setCell ⟨b, i, none⟩ u) b (xs.set i u) := by
  obtain ⟨t, h⟩ := h
  refine ⟨t, ?_⟩
  simp [World.setCell, Array.getElem?_modify, h]
theorem Rw.far {w : World} {b : Nat} {xs : List Value} (h : Rw w b xs) {p : Addr} (hp : b ≠ p.block) (u : Value) : Rw (w.setCell p u) b xs := by
  obtain ⟨t, h⟩ := h
  exact ⟨t, (Below.heap_setCell w p u b hp).trans h⟩
theorem Rw.below {B : Nat} {w w' : World} {b : Nat} {xs : List Value} (h : Rw w b xs) (hb : Below B w w') (hg : b < B) : Rw w' b xs := by
  obtain ⟨t, h⟩ := h
  exact ⟨t, (hb.block b hg).trans h⟩
def i3 (x y z : Int) : List Value := [.int .i64 x, .int .i64 y, .int .i64 z]

def pre3 (x y z : Int) (k : Nat) : List Value := i3 (if 0 < k then x else 0) (if 1 < k then y else 0) (if 2 < k then z else 0)

theorem co_ways (s lo r : Int) (hs : right0 s = true) (hl : inB 1099511627776 lo = true) :
    (1 ≤ s ∧ s ≤ 1048576 ∧ -1099511627776 ≤ lo ∧ lo ≤ 1099511627776) ∧
    ((r < -4611686018427387904 ∧ coOk s lo r = false) ∨ ((-4611686018427387904 ≤ r ∧ 4611686018427387904 < r) ∧ coOk s lo r = false) ∨
     ((-4611686018427387904 ≤ r ∧ r ≤ 4611686018427387904) ∧ coX s lo r = snapX s (r - lo) ∧ coOk s lo r = inB 1048576 (coX s lo r))) := by
  simp [right0] at hs
  simp [inB] at hl
  refine ⟨by omega, ?_⟩
  by_cases h : inB 4611686018427387904 r = true
  · refine .inr (.inr ⟨?_, by simp [coX, h], by simp [coX, coOk, h]⟩)
    simp [inB] at h
    omega
  · have h' : inB 4611686018427387904 r = false := by simpa using h
    have e : coOk s lo r = false := by simp [coOk, h']
    simp [inB] at h'
    by_cases h2 : r < -4611686018427387904
    · exact .inl ⟨h2, e⟩
    · exact .inr (.inl ⟨by omega, e⟩)

/-- trunc division and its corrections, as the reference takes them -/
theorem snap_ref (s d : Int) (hs : 1 ≤ s) (hs2 : s ≤ 1048576) (h1 : -4611687117939015680 ≤ d) (h2 : d ≤ 4611687117939015680) :
    (-4611687117939015681 ≤ d.tdiv s ∧ d.tdiv s ≤ 4611687117939015681 ∧ -4611687118000000000 ≤ d.tdiv s * s ∧ d.tdiv s * s ≤ 4611687118000000000) ∧
    ((0 ≤ d ∧ ((s ≤ 2 * (d - d.tdiv s * s) ∧ snapX s d = d.tdiv s + 1) ∨ (2 * (d - d.tdiv s * s) < s ∧ snapX s d = d.tdiv s)) ∧ 0 ≤ d - d.tdiv s * s ∧ d - d.tdiv s * s < s) ∨
     ((d < 0 ∧ ((d.tdiv s * s != d) = false)) ∧ (2 * (d - d.tdiv s * s) < s ∧ snapX s d = d.tdiv s) ∧ 0 ≤ d - d.tdiv s * s ∧ d - d.tdiv s * s < s) ∨
     ((d < 0 ∧ ((d.tdiv s * s != d) = true)) ∧ ((s ≤ 2 * (d - (d.tdiv s - 1) * s) ∧ snapX s d = d.tdiv s) ∨ (2 * (d - (d.tdiv s - 1) * s) < s ∧ snapX s d = d.tdiv s - 1)) ∧
       0 ≤ d - (d.tdiv s - 1) * s ∧ d - (d.tdiv s - 1) * s < s ∧ -4611687120000000000 ≤ (d.tdiv s - 1) * s ∧ (d.tdiv s - 1) * s ≤ 4611687120000000000)) := by
  have hw := snap_ways s d hs h1 h2
  have e := Int.mul_tdiv_add_tmod d s
  have e1 : s * d.tdiv s = d.tdiv s * s := Int.mul_comm _ _
  have e2 : (d.tdiv s - 1) * s = d.tdiv s * s - s := by rw [Int.sub_mul, Int.one_mul]
  rw [e2]
  have f := snapX_div s d hs
  have n1 := Int.tmod_nonneg s (a := d)
  have n2 : d < 0 → d.tmod s ≤ 0 := fun h => by
    have : d.tmod s = -((-d).tmod s) := by rw [Int.neg_tmod, Int.neg_neg]
    have := Int.tmod_nonneg s (show 0 ≤ -d by omega)
    omega
  generalize d.tdiv s = q at *
  generalize q * s = m at *
  generalize d.tmod s = t at *
  have b1 : -4611687118000000000 ≤ m ∧ m ≤ 4611687118000000000 := by omega
  refine ⟨by omega, ?_⟩
  by_cases hd : 0 ≤ d
  · left
    have := n1 hd
    omega
  · right
    have := n2 (by omega)
    by_cases hm : m = d
    · left
      have h0 : (m != d) = false := by simp [hm]
      refine ⟨⟨by omega, h0⟩, ?_⟩
      omega
    · right
      have h0 : (m != d) = true := by simp [hm]
      refine ⟨⟨by omega, h0⟩, ?_⟩
      omega
end Go.Proofs.Ytppkbnajpeoaaaa
