/- bytes.Clone, and the function value of Decode: walks. -/
import Derived.Test.YtpfdgcdhcciilaaG5
import Derived.Lib.SliceRun
namespace Go.Proofs.Ytpfdgcdhcciilaa
open Go.RowKit

theorem own_empty {w : World} {base : Nat} (hb : base ≤ w.heap.size) : (w.alloc (.cells #[] 5)).ownsRow base 5 1 (.slice (some ⟨w.heap.size, 0, none⟩) 0 0) 0 [] :=
  World.ownsRow_made w #[] 0 hb (by decide) rfl
set_option maxHeartbeats 1000000 in
theorem clone_any (b off c : Nat) (ys : List Nat) (w : World) (hB : Byt w (some ⟨b, off, none⟩) ys) (hl : ys.length ≤ 65536) :
    Calls Try.prog 22 #[.slice (some ⟨b, off, none⟩) ys.length c] w fun e w' => ∃ v, e = .returned v ∧ ownD w' w.heap.size v ys ∧ Below w.heap.size w w' := by
  have HB := Lib.hid hB
  clear hB
  have hq := fun W => Lib.run_eql_slice_nil (P := Try.prog) W 25 5 (some ⟨b, off, none⟩) ys.length c 0 0 Try.underlying25
  go_enter Try.func22, Try.ntmps22
  go_wp2_with (at_builtin; refine wpList_append_byt rfl (.tmp 5) (.tmp 6) rfl w.heap.size _ 0 [] rfl (own_empty (Nat.le_refl _)) _ c ys rfl (HB.out.below (by (repeat (first | with_reducible exact Below.refl _ _ | with_reducible assumption | with_reducible refine below_drewN ?_ _ | with_reducible refine Below.drew ?_ | with_reducible refine Below.alloc ?_ (by first | exact Nat.le_refl _ | (simp; done) | (simp; omega) | omega) _ | with_reducible refine Below.setCell ?_ (by first | exact Nat.le_refl _ | (simp; done) | (simp; omega) | omega) _ | with_reducible refine Below.trans ?_ (Below.mono (by with_reducible assumption) (by first | exact Nat.le_refl _ | (simp; done) | (simp; omega) | omega)))))) (by omega) (by simp) ?_; intro v1 w1 own1 hg1 _hv1; have HB1 := Lib.hid (app_below (w0 := w) (below_alloc (Below.refl _ _) _) (own_empty (Nat.le_refl _)) hg1); have HO1 := Lib.hid own1; clear own1 hg1 _hv1)
  go_ret
  refine ⟨_, rfl, ⟨HB.out.1, ?_⟩, HB1.out⟩
  simpa using HO1.out

theorem take_no (n g m cap : Nat) (A : Option Addr) (w : World) (hc : w.cell? ⟨g, 0, none⟩ = some (.slice A m cap)) (hm : m < n) :
    Calls Try.prog 20 #[.int .i64 (n : Int), .pointer (some ⟨g, 0, none⟩)] w fun e w' => e = .returned (.tuple #[.slice none 0 0, .bool false]) ∧ w = w' := by
  go_enter Try.func20, Try.ntmps20
  go_wp2
  go_ret2
  exact ⟨rfl, rfl⟩
theorem Blk.set0 {w : World} {g : Nat} {t : TypeId} {u v : Value} (h : Blk w g t #[u]) : Blk (w.setCell ⟨g, 0, none⟩ v) g t #[v] := by
  unfold Blk at h ⊢
  simp [World.setCell, Array.getElem?_modify, h]
theorem grown_set {w : World} {g : Nat} (v : Value) : w.grownBy (w.setCell ⟨g, 0, none⟩ v) (some g) :=
  ⟨rfl, rfl, rfl, by simp [World.setCell], fun i _ hne => Below.heap_setCell w ⟨g, 0, none⟩ v i (by rintro rfl; exact hne rfl)⟩
def TakeYes (n g m cap b off : Nat) (w : World) (e : Ending) (w' : World) : Prop :=
  e = .returned (.tuple #[.slice (some ⟨b, off, none⟩) n cap, .bool true]) ∧ (∃ off', (cap = n ∨ off' = off + n) ∧ Blk w' g 25 #[.slice (some ⟨b, off', none⟩) (m - n) (cap - n)]) ∧ w.grownBy w' (some g)
set_option maxHeartbeats 1000000 in
theorem take_yes (n g m cap b off : Nat) (w : World) (hK : Blk w g 25 #[.slice (some ⟨b, off, none⟩) m cap]) (hn : n ≤ m) (hm : m ≤ cap) :
    Calls Try.prog 20 #[.int .i64 (n : Int), .pointer (some ⟨g, 0, none⟩)] w (TakeYes n g m cap b off w) := by
  have hc : w.cell? ⟨g, 0, none⟩ = some (.slice (some ⟨b, off, none⟩) m cap) := hK.cell 0
  have hfz : w.frozen? ⟨g, 0, none⟩ = false := by unfold Blk at hK; simp [World.frozen?, hK]
  have HK := Lib.hid hK
  clear hK
  by_cases hcn : cap = n
  · subst hcn
    obtain rfl : m = cap := by omega
    go_enter Try.func20, Try.ntmps20
    go_wp2
    go_ret2
    exact ⟨rfl, ⟨_, .inl rfl, by simpa using HK.out.set0⟩, grown_set _⟩
  · go_enter Try.func20, Try.ntmps20
    go_wp2
    go_ret2
    exact ⟨rfl, ⟨_, .inr rfl, HK.out.set0⟩, grown_set _⟩
end Go.Proofs.Ytpfdgcdhcciilaa
