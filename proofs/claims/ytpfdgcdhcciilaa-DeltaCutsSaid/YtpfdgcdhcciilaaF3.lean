/- The bytes of a number: walks. -/
import Derived.Test.YtpfdgcdhcciilaaF2
import Derived.OwnWalk
namespace Go.Proofs.Ytpfdgcdhcciilaa
open Go.RowKit

def bys (xs : List Nat) : List Value := xs.map fun (x : Nat) => Value.int .u8 (x : Int)
def num2 (n : Nat) : List Nat := [n / 256 % 256, n % 256]
def num4 (n : Nat) : List Nat := [n / 16777216 % 256, n / 65536 % 256, n / 256 % 256, n % 256]
theorem num2_lt (n : Nat) : ∀ x ∈ num2 n, x < 256 := by
  intro x hx
  simp [num2] at hx
  rcases hx with rfl | rfl <;> omega
theorem num4_lt (n : Nat) : ∀ x ∈ num4 n, x < 256 := by
  intro x hx
  simp [num4] at hx
  rcases hx with rfl | rfl | rfl | rfl <;> omega
theorem val_num2 (n : Nat) (h : n < 65536) : valOf (num2 n) = n := by simp [valOf, num2]; omega
theorem val_num4 (n : Nat) (h : n < 4294967296) : valOf (num4 n) = n := by simp [valOf, num4]; omega

set_option maxHeartbeats 400000 in
theorem number4_any (n : Nat) (hn : n < 4294967296) (w : World) :
    Calls Try.prog 18 #[.int .u64 (n : Int), .int .i64 4] w fun e w' => ∃ v, e = .returned v ∧ w'.ownsRow w.heap.size 5 1 v 4 (bys (num4 n)) ∧ Below w.heap.size w w' := by
  have hmk : ∀ w, (Instr.makeSlice 25 (.int .i64 4) (.int .i64 4)).run Try.prog w = .ok (.slice (some ⟨w.heap.size, 0, none⟩) 4 4) (w.alloc (.cells #[.int .u8 0, .int .u8 0, .int .u8 0, .int .u8 0] 5)) := fun _ => by kernel_rfl
  go_enter Try.func18, Try.ntmps18
  go_wp2
  refine wp_loop_rounds 5 ?_
  iterate 5 (rw [rounds_succ]; go_wp2)
  go_ret
  refine ⟨_, rfl, ?_, (Below.refl _ _).alloc (Nat.le_refl _) _⟩
  have h := World.ownsRow_lit (base := w.heap.size) (e := 5) (size := 1) w (bys (num4 n)).toArray 4 (Nat.le_refl _) (by decide) rfl
  have e : (bys (num4 n)).toArray = #[.int .u8 ((n : Int) / 16777216), .int .u8 ((n : Int) / 65536 % 256), .int .u8 ((n : Int) / 256 % 256), .int .u8 ((n : Int) % 256)] := by
    simp [bys, num4]
    omega
  rw [e] at h
  rw [show bys (num4 n) = (#[.int .u8 ((n : Int) / 16777216), .int .u8 ((n : Int) / 65536 % 256), .int .u8 ((n : Int) / 256 % 256), .int .u8 ((n : Int) % 256)] : Array Value).toList from by rw [← e]]
  exact h

set_option maxHeartbeats 400000 in
theorem number2_any (n : Nat) (hn : n < 65536) (w : World) :
    Calls Try.prog 18 #[.int .u64 (n : Int), .int .i64 2] w fun e w' => ∃ v, e = .returned v ∧ w'.ownsRow w.heap.size 5 1 v 2 (bys (num2 n)) ∧ Below w.heap.size w w' := by
  have hmk : ∀ w, (Instr.makeSlice 25 (.int .i64 2) (.int .i64 2)).run Try.prog w = .ok (.slice (some ⟨w.heap.size, 0, none⟩) 2 2) (w.alloc (.cells #[.int .u8 0, .int .u8 0] 5)) := fun _ => by kernel_rfl
  go_enter Try.func18, Try.ntmps18
  go_wp2
  refine wp_loop_rounds 3 ?_
  iterate 3 (rw [rounds_succ]; go_wp2)
  go_ret
  refine ⟨_, rfl, ?_, (Below.refl _ _).alloc (Nat.le_refl _) _⟩
  have h := World.ownsRow_lit (base := w.heap.size) (e := 5) (size := 1) w (bys (num2 n)).toArray 2 (Nat.le_refl _) (by decide) rfl
  have e : (bys (num2 n)).toArray = #[.int .u8 ((n : Int) / 256), .int .u8 ((n : Int) % 256)] := by
    simp [bys, num2]
    omega
  rw [e] at h
  rw [show bys (num2 n) = (#[.int .u8 ((n : Int) / 256), .int .u8 ((n : Int) % 256)] : Array Value).toList from by rw [← e]]
  exact h


theorem byte_info : (Try.prog.info? 5).map (fun i => (i.zero, i.size, i.bytes)) = some (some (.int .u8 0), 1, 1) := by kernel_rfl
theorem new1 (w : World) (v : Value) : ∀ j u, [v][j]? = some u → (w.alloc (.cells #[v] 5)).cell? ((⟨w.heap.size, 0, none⟩ : Addr).add j) = some u := by
  intro j u hu
  match j, hu with
  | 0, hu =>
    simp at hu
    subst hu
    simp [Addr.add]
  | j + 1, hu => simp at hu
theorem one1 (k : IntKind) (n : Int) : ∀ u ∈ [Value.int k n], u.oneCell' = true := by
  intro u hu
  simp at hu
  subst hu
  rfl

set_option maxHeartbeats 1000000 in
theorem refNumber2_any (n : Nat) (hn : n < 65536) (w : World) :
    Calls Try.prog 23 #[.int .i64 (n : Int), .int .i64 2] w fun e w' => ∃ v, e = .returned v ∧ w'.ownsRow w.heap.size 5 1 v 2 (bys (num2 n)) ∧ Below w.heap.size w w' := by
  obtain ⟨i0, hi0, hz0, hz1, hz2⟩ := info_parts byte_info
  have own0 := World.ownsRow_nil w w.heap.size 5 1
  go_enter Try.func23, Try.ntmps23
  go_wp2
  refine wp_loop_rounds 3 ?_
  rw [rounds_succ]
  go_wp2
  refine wp_loop_rounds 2 ?_
  rw [rounds_succ]
  go_wp2
  rw [rounds_succ]
  go_wp2_with (at_builtin; go_must (refine wpList_append_own _ rfl _ _ 25 rfl w.heap.size 5 i0 _ 1 1 Try.underlying25 hi0 hz0 hz1 hz2 rfl (by decide) _ 0 _ rfl (own0.alloc _) ⟨w.heap.size, 0, none⟩ 1 1 [_] rfl rfl (new1 _ _) (one1 _ _) (by unfold maxLen; omega) (by omega) (by exact Nat.le_of_lt (by simp)) ?_); intro v1 w1 own1 hg1 _hv1)
  have bel1 : Below w.heap.size w w1 := Below.grown ((Below.refl _ _).alloc (Nat.le_refl _) _) hg1 (by simp) (fun k hk => (own0.lt k hk).1)
  rw [rounds_succ]
  go_wp2
  refine wp_loop_rounds 1 ?_
  rw [rounds_succ]
  go_wp2_with (at_builtin; go_must (refine wpList_append_own _ rfl _ _ 25 rfl w.heap.size 5 i0 _ 1 1 Try.underlying25 hi0 hz0 hz1 hz2 rfl (by decide) _ 1 _ rfl (own1.alloc _) ⟨w1.heap.size, 0, none⟩ 1 1 [_] rfl rfl (new1 _ _) (one1 _ _) (by unfold maxLen; omega) (by omega) (by have := bel1.size; simp; omega) ?_); intro v2 w2 own2 hg2 _hv2)
  have bel2 : Below w.heap.size w w2 := Below.grown ((bel1).alloc bel1.size _) hg2 (by have := bel1.size; simp; omega) (fun k hk => (own1.lt k hk).1)
  rw [rounds_succ]
  go_wp2
  go_ret
  refine ⟨_, rfl, ?_, bel2⟩
  refine (congrArg (fun l => World.ownsRow _ w.heap.size 5 1 _ 2 l) ?_).mp own2
  simp [bys, num2]

set_option maxHeartbeats 1000000 in
theorem refNumber4_any (n : Nat) (hn : n < 4294967296) (w : World) :
    Calls Try.prog 23 #[.int .i64 (n : Int), .int .i64 4] w fun e w' => ∃ v, e = .returned v ∧ w'.ownsRow w.heap.size 5 1 v 4 (bys (num4 n)) ∧ Below w.heap.size w w' := by
  obtain ⟨i0, hi0, hz0, hz1, hz2⟩ := info_parts byte_info
  have own0 := World.ownsRow_nil w w.heap.size 5 1
  go_enter Try.func23, Try.ntmps23
  go_wp2
  refine wp_loop_rounds 5 ?_
  rw [rounds_succ]
  go_wp2
  refine wp_loop_rounds 4 ?_
  rw [rounds_succ]
  go_wp2
  rw [rounds_succ]
  go_wp2
  rw [rounds_succ]
  go_wp2
  rw [rounds_succ]
  go_wp2_with (at_builtin; go_must (refine wpList_append_own _ rfl _ _ 25 rfl w.heap.size 5 i0 _ 1 1 Try.underlying25 hi0 hz0 hz1 hz2 rfl (by decide) _ 0 _ rfl (own0.alloc _) ⟨w.heap.size, 0, none⟩ 1 1 [_] rfl rfl (new1 _ _) (one1 _ _) (by unfold maxLen; omega) (by omega) (by exact Nat.le_of_lt (by simp)) ?_); intro v1 w1 own1 hg1 _hv1)
  have bel1 : Below w.heap.size w w1 := Below.grown ((Below.refl _ _).alloc (Nat.le_refl _) _) hg1 (by simp) (fun k hk => (own0.lt k hk).1)
  rw [rounds_succ]
  go_wp2
  refine wp_loop_rounds 3 ?_
  rw [rounds_succ]
  go_wp2
  rw [rounds_succ]
  go_wp2
  rw [rounds_succ]
  go_wp2_with (at_builtin; go_must (refine wpList_append_own _ rfl _ _ 25 rfl w.heap.size 5 i0 _ 1 1 Try.underlying25 hi0 hz0 hz1 hz2 rfl (by decide) _ 1 _ rfl (own1.alloc _) ⟨w1.heap.size, 0, none⟩ 1 1 [_] rfl rfl (new1 _ _) (one1 _ _) (by unfold maxLen; omega) (by omega) (by have := bel1.size; simp; omega) ?_); intro v2 w2 own2 hg2 _hv2)
  have bel2 : Below w.heap.size w w2 := Below.grown ((bel1).alloc bel1.size _) hg2 (by have := bel1.size; simp; omega) (fun k hk => (own1.lt k hk).1)
  rw [rounds_succ]
  go_wp2
  refine wp_loop_rounds 2 ?_
  rw [rounds_succ]
  go_wp2
  rw [rounds_succ]
  go_wp2_with (at_builtin; go_must (refine wpList_append_own _ rfl _ _ 25 rfl w.heap.size 5 i0 _ 1 1 Try.underlying25 hi0 hz0 hz1 hz2 rfl (by decide) _ 2 _ rfl (own2.alloc _) ⟨w2.heap.size, 0, none⟩ 1 1 [_] rfl rfl (new1 _ _) (one1 _ _) (by unfold maxLen; omega) (by omega) (by have := bel2.size; simp; omega) ?_); intro v3 w3 own3 hg3 _hv3)
  have bel3 : Below w.heap.size w w3 := Below.grown ((bel2).alloc bel2.size _) hg3 (by have := bel2.size; simp; omega) (fun k hk => (own2.lt k hk).1)
  rw [rounds_succ]
  go_wp2
  refine wp_loop_rounds 1 ?_
  rw [rounds_succ]
  go_wp2_with (at_builtin; go_must (refine wpList_append_own _ rfl _ _ 25 rfl w.heap.size 5 i0 _ 1 1 Try.underlying25 hi0 hz0 hz1 hz2 rfl (by decide) _ 3 _ rfl (own3.alloc _) ⟨w3.heap.size, 0, none⟩ 1 1 [_] rfl rfl (new1 _ _) (one1 _ _) (by unfold maxLen; omega) (by omega) (by have := bel3.size; simp; omega) ?_); intro v4 w4 own4 hg4 _hv4)
  have bel4 : Below w.heap.size w w4 := Below.grown ((bel3).alloc bel3.size _) hg4 (by have := bel3.size; simp; omega) (fun k hk => (own3.lt k hk).1)
  rw [rounds_succ]
  go_wp2
  go_ret
  refine ⟨_, rfl, ?_, bel4⟩
  refine (congrArg (fun l => World.ownsRow _ w.heap.size 5 1 _ 4 l) ?_).mp own4
  simp [bys, num4]
  omega
end Go.Proofs.Ytpfdgcdhcciilaa
