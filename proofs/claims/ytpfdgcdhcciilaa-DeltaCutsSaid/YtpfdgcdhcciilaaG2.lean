/- Rows of changes copied: plain and given. -/
import Derived.Test.YtpfdgcdhcciilaaG1
import Derived.Outline
namespace Go.Proofs.Ytpfdgcdhcciilaa
open Go.RowKit

def CopyRel (eout : TypeId) (cs : List Chg) (w : World) (v i : Value) (wr : World) : Prop :=
  ∃ (k : Nat) (rows : List Value), k ≤ cs.length ∧ i = .int .i64 k ∧ Below w.heap.size w wr ∧ wr.ownsRow w.heap.size eout 3 v k rows ∧ Row3 (bytD w) (cs.take k) rows

theorem chg45_info : (Try.prog.info? 45).map (fun i => (i.zero, i.size, i.bytes)) = some (some (.agg #[.int .i64 0, .int .u32 0, .slice none 0 0]), 3, 40) := by kernel_rfl
set_option maxHeartbeats 2000000 in
theorem given_any (A : Option Addr) (c : Nat) (cs : List Chg) (w : World) (hB : Chs w A cs) (hl : cs.length ≤ 65536) :
    Calls Try.prog 10 #[.slice A cs.length c] w fun e w' => ∃ v rows, e = .returned v ∧ w'.ownsRow w.heap.size 45 3 v cs.length rows ∧ Row3 (bytD w) cs rows ∧ Below w.heap.size w w' := by
  go_enter Try.func10, Try.ntmps10
  go_wp2
  go_loopw [3, 4] (fun v i wr => CopyRel 45 cs w v i wr) (fun _ i _ => cs.length - (intOf i).toNat)
  case atStart => exact ⟨0, [], by omega, rfl, Below.refl _ _, World.ownsRow_nil _ _ _ _, rfl⟩
  case round =>
    obtain ⟨k, rows, hk, rfl, hb, hown, hrow⟩ := hrel
    obtain ⟨wo, rfl⟩ : ∃ wo : World, wo = wr := ⟨_, rfl⟩
    by_cases hlt : k < cs.length
    · have HT := Lib.hid (take_snoc cs default k hlt)
      obtain ⟨b, off, rfl, hc⟩ := hB (by omega)
      obtain ⟨e0, e1, eo, P, cP, e2, eB⟩ := hc k hlt
      have bl : b < w.heap.size := World.block_lt_of_cell? _ _ e0
      have hk : ∀ w', Below w.heap.size w w' → ∀ b o, b < w.heap.size → w'.cell? ⟨b, o, none⟩ = w.cell? ⟨b, o, none⟩ := fun w' h b o hb => h.cell (p := ⟨b, o, none⟩) hb
      have i1 : (0 : Int) ≤ (k : Int) := by omega
      have i2 : (k : Int) < (cs.length : Int) := by omega
      have HB := Lib.hid hb
      have HOWN := Lib.hid hown
      have HROW := Lib.hid hrow
      clear hc hB hown hrow
      have HEB := Lib.hid eB
      clear eB
      generalize cs.getD k default = x at *
      obtain ⟨bay, old, data⟩ := x
      dsimp only at *
      have ho := eo
      obtain ⟨i0, hi0, hz0, hz1, hz2⟩ := info_parts chg45_info
      have HI := Lib.hid hi0
      have HZ0 := Lib.hid hz0
      have HZ1 := Lib.hid hz1
      have HZ2 := Lib.hid hz2
      clear hi0 hz0 hz1 hz2
      go_wp2_with fail
      go_region_held3 (fun w' => Below w.heap.size w w') ((repeat' (first | with_reducible assumption | with_reducible exact Below.refl _ _ | with_reducible refine Below.drew ?_ | with_reducible refine below_alloc ?_ _ | with_reducible refine below_set ?_ ?_ _ | with_reducible refine below_then ?_ (by with_reducible assumption) | with_reducible exact Nat.le_refl _ | with_reducible exact Below.size (by with_reducible assumption))))
        ((refine step_append_lies _ (by rfl) _ _ _ (by rfl) w.heap.size 45 i0 _ 3 40 Try.underlying29 HI.out HZ0.out HZ1.out HZ2.out rfl (by decide) _ k rows (by rfl) (own_below HOWN.out (by (repeat' (first | with_reducible assumption | with_reducible exact Below.refl _ _ | with_reducible refine Below.drew ?_ | with_reducible refine below_alloc ?_ _ | with_reducible refine below_set ?_ ?_ _ | with_reducible refine below_then ?_ (by with_reducible assumption) | with_reducible exact Nat.le_refl _ | with_reducible exact Below.size (by with_reducible assumption))))) ⟨wo.heap.size, 0, none⟩ 1 1 [.int .i64 bay, .int .u32 ((old : Nat) : Int), .slice P data.length cP] (by rfl) rfl (news3 (heap_alloc_new _ _)) (by intro u hu; simp at hu; rcases hu with rfl | rfl | rfl <;> rfl) (by omega) (by unfold maxLen; omega) (by omega) (by have := HB.out.size; simp; omega) _ rfl ?_; intro g cap w1 hown1 hgrow hat hltg; have hbn : Below w.heap.size w w1 := Below.grown (by (repeat' (first | with_reducible assumption | with_reducible exact Below.refl _ _ | with_reducible refine Below.drew ?_ | with_reducible refine below_alloc ?_ _ | with_reducible refine below_set ?_ ?_ _ | with_reducible refine below_then ?_ (by with_reducible assumption) | with_reducible exact Nat.le_refl _ | with_reducible exact Below.size (by with_reducible assumption)))) hgrow (by have := HB.out.size; simp; omega) (fun k hk => (HOWN.out.lt k hk).1)))
      clear hk hb e0 e1 e2
      go_wp2
      refine ⟨⟨k + 1, rows ++ [.int .i64 bay, .int .u32 ((old : Nat) : Int), .slice P data.length cP], by omega, by go_num, hbn, hown1, ?_⟩, by simp [intOf]; omega⟩
      rw [HT.out]
      exact Row3.snoc (c := ⟨bay, old, data⟩) HROW.out ho ⟨P, cP, rfl, HEB.out⟩
    · obtain rfl : k = cs.length := by omega
      rw [List.take_length] at hrow
      go_wp2
      go_ret
      exact ⟨_, _, rfl, hown, hrow, hb⟩

theorem chg46_info : (Try.prog.info? 46).map (fun i => (i.zero, i.size, i.bytes)) = some (some (.agg #[.int .i64 0, .int .u32 0, .slice none 0 0]), 3, 40) := by kernel_rfl
set_option maxHeartbeats 2000000 in
theorem plain_any (A : Option Addr) (c : Nat) (cs : List Chg) (w : World) (hB : Chs w A cs) (hl : cs.length ≤ 65536) :
    Calls Try.prog 16 #[.slice A cs.length c] w fun e w' => ∃ v rows, e = .returned v ∧ w'.ownsRow w.heap.size 46 3 v cs.length rows ∧ Row3 (bytD w) cs rows ∧ Below w.heap.size w w' := by
  go_enter Try.func16, Try.ntmps16
  go_wp2
  go_loopw [3, 4] (fun v i wr => CopyRel 46 cs w v i wr) (fun _ i _ => cs.length - (intOf i).toNat)
  case atStart => exact ⟨0, [], by omega, rfl, Below.refl _ _, World.ownsRow_nil _ _ _ _, rfl⟩
  case round =>
    obtain ⟨k, rows, hk, rfl, hb, hown, hrow⟩ := hrel
    obtain ⟨wo, rfl⟩ : ∃ wo : World, wo = wr := ⟨_, rfl⟩
    by_cases hlt : k < cs.length
    · have HT := Lib.hid (take_snoc cs default k hlt)
      obtain ⟨b, off, rfl, hc⟩ := hB (by omega)
      obtain ⟨e0, e1, eo, P, cP, e2, eB⟩ := hc k hlt
      have bl : b < w.heap.size := World.block_lt_of_cell? _ _ e0
      have hk : ∀ w', Below w.heap.size w w' → ∀ b o, b < w.heap.size → w'.cell? ⟨b, o, none⟩ = w.cell? ⟨b, o, none⟩ := fun w' h b o hb => h.cell (p := ⟨b, o, none⟩) hb
      have i1 : (0 : Int) ≤ (k : Int) := by omega
      have i2 : (k : Int) < (cs.length : Int) := by omega
      have HB := Lib.hid hb
      have HOWN := Lib.hid hown
      have HROW := Lib.hid hrow
      clear hc hB hown hrow
      have HEB := Lib.hid eB
      clear eB
      generalize cs.getD k default = x at *
      obtain ⟨bay, old, data⟩ := x
      dsimp only at *
      have ho := eo
      obtain ⟨i0, hi0, hz0, hz1, hz2⟩ := info_parts chg46_info
      have HI := Lib.hid hi0
      have HZ0 := Lib.hid hz0
      have HZ1 := Lib.hid hz1
      have HZ2 := Lib.hid hz2
      clear hi0 hz0 hz1 hz2
      go_wp2_with fail
      go_region_held3 (fun w' => Below w.heap.size w w') ((repeat' (first | with_reducible assumption | with_reducible exact Below.refl _ _ | with_reducible refine Below.drew ?_ | with_reducible refine below_alloc ?_ _ | with_reducible refine below_set ?_ ?_ _ | with_reducible refine below_then ?_ (by with_reducible assumption) | with_reducible exact Nat.le_refl _ | with_reducible exact Below.size (by with_reducible assumption))))
        ((refine step_append_lies _ (by rfl) _ _ _ (by rfl) w.heap.size 46 i0 _ 3 40 Try.underlying22 HI.out HZ0.out HZ1.out HZ2.out rfl (by decide) _ k rows (by rfl) (own_below HOWN.out (by (repeat' (first | with_reducible assumption | with_reducible exact Below.refl _ _ | with_reducible refine Below.drew ?_ | with_reducible refine below_alloc ?_ _ | with_reducible refine below_set ?_ ?_ _ | with_reducible refine below_then ?_ (by with_reducible assumption) | with_reducible exact Nat.le_refl _ | with_reducible exact Below.size (by with_reducible assumption))))) ⟨wo.heap.size, 0, none⟩ 1 1 [.int .i64 bay, .int .u32 ((old : Nat) : Int), .slice P data.length cP] (by rfl) rfl (news3 (heap_alloc_new _ _)) (by intro u hu; simp at hu; rcases hu with rfl | rfl | rfl <;> rfl) (by omega) (by unfold maxLen; omega) (by omega) (by have := HB.out.size; simp; omega) _ rfl ?_; intro g cap w1 hown1 hgrow hat hltg; have hbn : Below w.heap.size w w1 := Below.grown (by (repeat' (first | with_reducible assumption | with_reducible exact Below.refl _ _ | with_reducible refine Below.drew ?_ | with_reducible refine below_alloc ?_ _ | with_reducible refine below_set ?_ ?_ _ | with_reducible refine below_then ?_ (by with_reducible assumption) | with_reducible exact Nat.le_refl _ | with_reducible exact Below.size (by with_reducible assumption)))) hgrow (by have := HB.out.size; simp; omega) (fun k hk => (HOWN.out.lt k hk).1)))
      clear hk hb e0 e1 e2
      go_wp2
      refine ⟨⟨k + 1, rows ++ [.int .i64 bay, .int .u32 ((old : Nat) : Int), .slice P data.length cP], by omega, by go_num, hbn, hown1, ?_⟩, by simp [intOf]; omega⟩
      rw [HT.out]
      exact Row3.snoc (c := ⟨bay, old, data⟩) HROW.out ho ⟨P, cP, rfl, HEB.out⟩
    · obtain rfl : k = cs.length := by omega
      rw [List.take_length] at hrow
      go_wp2
      go_ret
      exact ⟨_, _, rfl, hown, hrow, hb⟩
end Go.Proofs.Ytpfdgcdhcciilaa
