/- Rows of bytes put behind one another: walks of slices.Grow and slices.Concat. -/
import Derived.Test.YtnbhgeehlcjmdaaGreatD6
import Derived.Lib.AppendZeros
namespace Go.Proofs.YtnbhgeehlcjmdaaGreat
open Go.RowKit

set_option maxRecDepth 100000 in
set_option maxHeartbeats 1000000 in
theorem grow_nil (n : Nat) (hn : n ≤ 100000000) (w : World) :
    Calls Tryz.prog 34 #[.slice none 0 0, .int .i64 (n : Int)] w fun e w' => ∃ v, e = .returned v ∧ w'.ownsRow w.heap.size 5 1 v 0 [] ∧ Below w.heap.size w w' := by
  obtain ⟨i0, hi0, hz0, hz1, hz2⟩ := info_parts byte_info
  rcases Nat.eq_zero_or_pos n with h0 | h0
  · subst h0
    go_enter Tryz.func34, Tryz.ntmps34
    go_wp2
    go_ret
    exact ⟨_, rfl, World.ownsRow_nil _ _ _ _, Below.refl _ _⟩
  · have hr := fun ty => Lib.run_append_nil_zeros (P := Tryz.prog) w 25 3 ty 5 i0 _ .i64 .i64 Tryz.underlying25 Tryz.underlying3 hi0 hz0 n h0 (by omega) (by omega) (by rw [hz2]; omega)
    have hG1 : n ≤ grownCap w n 0 5 := grownCap_ge w _ _ _
    have hG2 := grownCap_le_maxLen w n 0 5 (by unfold maxLen; omega)
    generalize grownCap w n 0 5 = G at *
    have hsz : ((Builtin.zeroCells (Value.int .u8 0).cells n ++ Builtin.zeroCells (Value.int .u8 0).cells (G - n))).size = G * 1 := by
      simp [Builtin.zeroCells, Value.cells]
      omega
    have hG3 : (0 : Int) ≤ (G : Int) := by omega
    generalize Builtin.zeroCells (Value.int .u8 0).cells n ++ Builtin.zeroCells (Value.int .u8 0).cells (G - n) = row at *
    have HO := Lib.hid (World.ownsRow_made (w := w.drew) (base := w.heap.size) (e := 5) (size := 1) row G (Nat.le_refl _) hG2 hsz)
    have HB : Hid (Below w.heap.size w (w.drew.alloc (.cells row 5))) := ((Below.refl _ _).drew).alloc (Nat.le_refl _) _
    clear hsz hG2
    have HR := Lib.hid hr
    clear hr
    go_enter Tryz.func34, Tryz.ntmps34
    go_wp2_with (at_builtin; refine Lib.wpList_append_run _ rfl _ _ _ _ rfl _ _ rfl rfl _ _ (HR.out _) ?_)
    go_ret
    exact ⟨_, rfl, HO.out, HB.out⟩
end Go.Proofs.YtnbhgeehlcjmdaaGreat
/-! Rows of bytes put behind one another: walk of slices.Concat. -/
namespace Go.Proofs.YtnbhgeehlcjmdaaGreat
open Go.RowKit

/-- rows of bytes, as a slice of slices holds them -/
def Rws (w : World) (A : Option Addr) (ls : List (List Nat)) : Prop :=
  0 < ls.length → ∃ b off, A = some ⟨b, off, none⟩ ∧ ∀ i, i < ls.length → ∃ P c, w.cell? ⟨b, off + i, none⟩ = some (.slice P (ls.getD i []).length c) ∧ Byt w P (ls.getD i [])
def catTo (ls : List (List Nat)) : Nat → List Nat
  | 0 => []
  | k + 1 => catTo ls k ++ ls.getD k []
theorem catTo_all (ls : List (List Nat)) : ∀ k, k ≤ ls.length → catTo ls k = (ls.take k).flatten
  | 0, _ => by simp [catTo]
  | k + 1, h => by
    simp only [catTo]
    rw [catTo_all ls k (by omega), take_snoc ls [] k (by omega)]
    simp
theorem catTo_le {ls : List (List Nat)} {j k : Nat} (h : j ≤ k) : (catTo ls j).length ≤ (catTo ls k).length := by
  induction k with
  | zero =>
    obtain rfl : j = 0 := by omega
    exact Nat.le_refl _
  | succ k ih =>
    by_cases e : j = k + 1
    · subst e; exact Nat.le_refl _
    · have := ih (by omega)
      simp only [catTo, List.length_append]
      omega
set_option maxRecDepth 100000 in
set_option maxHeartbeats 4000000 in
theorem concat_n (A : Option Addr) (c n : Nat) (ls : List (List Nat)) (w : World) (hR : Rws w A ls) (hn : ls.length = n) (hc : n ≤ 100000) (hl : (catTo ls n).length ≤ 10000000) :
    Calls Tryz.prog 14 #[.slice A n c] w fun e w' => ∃ v, e = .returned v ∧ w'.ownsRow w.heap.size 5 1 v (catTo ls n).length (bys (catTo ls n)) ∧ Below w.heap.size w w' := by
  have HL : Hid (∀ k, k ≤ n → (catTo ls k).length ≤ 10000000) := fun k hk => Nat.le_trans (catTo_le hk) hl
  clear hl
  go_enter Tryz.func14, Tryz.ntmps14
  go_wp2
  go_loop [3, 11] (fun s i => ∃ k : Nat, k ≤ n ∧ i = .int .i64 k ∧ s = .int .i64 ((catTo ls k).length : Nat)) (fun _ i => n - (intOf i).toNat)
  case atStart => exact ⟨0, by omega, rfl, by simp [catTo]⟩
  case round =>
    obtain ⟨k, hk, rfl, rfl⟩ := hrel
    have hle := HL.out k hk
    by_cases hlt : k < n
    · obtain ⟨b, off, rfl, hc'⟩ := hR (by omega)
      obtain ⟨P, cP, f0, _⟩ := hc' k (by omega)
      have HS : Hid ((catTo ls (k + 1)).length = (catTo ls k).length + (ls.getD k []).length) := by
        show _ = _
        simp [catTo]
      have hle2 := HL.out (k + 1) (by omega)
      rw [HS.out] at hle2
      clear hc'
      generalize (ls.getD k []).length = m at *
      generalize (catTo ls k).length = s at *
      go_wp2
      refine ⟨⟨k + 1, by omega, by go_num, ?_⟩, by simp [intOf]; omega⟩
      rw [HS.out]
      go_num
    · obtain rfl : k = n := by omega
      have HG := Lib.hid (grow_nil (catTo ls k).length (by omega) w)
      generalize hs : (catTo ls k).length = s at *
      have HSZ := Lib.hid hs
      clear hs
      go_wp2_with fail
      refine (HG.out).mono ?_
      rintro e w1 ⟨v1, rfl, hown1, hb1⟩
      have HO1 := Lib.hid hown1
      have HB1 := Lib.hid hb1
      clear hown1 hb1
      go_wp2
      go_loopw [6, 27] (fun v i wr => ∃ j : Nat, j ≤ k ∧ i = .int .i64 j ∧ Below w.heap.size w wr ∧ wr.ownsRow w.heap.size 5 1 v (catTo ls j).length (bys (catTo ls j))) (fun _ i _ => k - (intOf i).toNat)
      case atStart => exact ⟨0, by omega, rfl, HB1.out, by simpa [catTo, bys] using HO1.out⟩
      case round =>
        obtain ⟨j, hj, rfl, hb, hown⟩ := hrel
        obtain ⟨wo, rfl⟩ : ∃ wo : World, wo = wr := ⟨_, rfl⟩
        have hle := HL.out j hj
        by_cases hlt2 : j < k
        · obtain ⟨b, off, rfl, hc'⟩ := hR (by omega)
          obtain ⟨P, cP, f0, hP⟩ := hc' j (by omega)
          have e0 := (hb.cell (World.block_lt_of_cell? _ _ f0)).trans f0
          have HP := Lib.hid (hP.below hb)
          have hle2 := HL.out (j + 1) (by omega)
          have HS : Hid (catTo ls (j + 1) = catTo ls j ++ ls.getD j []) := rfl
          rw [HS.out, List.length_append] at hle2
          have HB := Lib.hid hb
          have HOWN := Lib.hid hown
          clear hc' hP f0 hb hown
          generalize ls.getD j [] = y at *
          generalize catTo ls j = X at *
          go_wp2_with (at_builtin; refine wpList_append_byt rfl (.tmp 31) (.tmp 32) rfl w.heap.size _ X.length (bys X) rfl HOWN.out P cP y rfl HP.out (by omega) HB.out.size ?_; intro v2 w2 own2 hg2 _hv2; have HB2 := Lib.hid (app_below HB.out HOWN.out hg2); have HO2 := Lib.hid own2; clear own2 hg2 _hv2)
          refine ⟨⟨j + 1, by omega, by go_num, HB2.out, ?_⟩, by simp [intOf]; omega⟩
          rw [HS.out, List.length_append, bys_app]
          exact HO2.out
        · obtain rfl : j = k := by omega
          have HB := Lib.hid hb
          have HOWN := Lib.hid hown
          clear hb hown
          go_wp2
          go_ret
          exact ⟨_, rfl, HOWN.out, HB.out⟩
end Go.Proofs.YtnbhgeehlcjmdaaGreat
