/- The two heads of a box: walk of box.heads. -/
import Derived.Test.YtnbhgeehlcjmdaaGreatD13
import Derived.ArgAppend
import Derived.Lib.SlBytesConst
import Derived.Deep.OwnRows
namespace Go.Proofs.YtnbhgeehlcjmdaaGreat
open Go.RowKit

def rowL (c : Nat × List Nat) : List Nat := [c.1] ++ num4 c.2.length ++ low4 (sumOf c.2)
def rowsTo (cs : List (Nat × List Nat)) : Nat → List Nat
  | 0 => []
  | k + 1 => rowsTo cs k ++ rowL (cs.getD k default)
def fixedL (n : Nat) : List Nat := sealL ([71, 89, 80, 83] ++ num2 n)
def tableL (cs : List (Nat × List Nat)) : List Nat := sealL (rowsTo cs cs.length)
/-- chunks that are not great -/
def Mild (cs : List (Nat × List Nat)) : Prop := cs.length ≤ 1000 ∧ ∀ i, i < cs.length → (cs.getD i default).1 < 256 ∧ (cs.getD i default).2.length ≤ 1000 ∧ ∀ x ∈ (cs.getD i default).2, x < 256
theorem rowL_len (c : Nat × List Nat) : (rowL c).length = 9 := by simp [rowL, num4, low4]
theorem rowsTo_len (cs : List (Nat × List Nat)) : ∀ k, (rowsTo cs k).length = 9 * k
  | 0 => rfl
  | k + 1 => by rw [rowsTo, List.length_append, rowsTo_len cs k, rowL_len]; omega
theorem rowL_lt {c : Nat × List Nat} (h : c.1 < 256) : ∀ x ∈ rowL c, x < 256 := by
  intro x hx
  simp only [rowL, List.mem_append, List.mem_singleton] at hx
  rcases hx with (rfl | hx) | hx
  · exact h
  · exact num4_lt _ x hx
  · exact low4_lt _ x hx
theorem rowsTo_lt {cs : List (Nat × List Nat)} (h : Mild cs) : ∀ k, k ≤ cs.length → ∀ x ∈ rowsTo cs k, x < 256
  | 0, _ => by simp [rowsTo]
  | k + 1, hk => by
    intro x hx
    rw [rowsTo, List.mem_append] at hx
    rcases hx with hx | hx
    · exact rowsTo_lt h k (by omega) x hx
    · exact rowL_lt (h.2 k (by omega)).1 x hx
theorem byt4mark {w : World} {fr : Nat × Nat} : Byt (w.alloc (.cells #[.int .u8 71, .int .u8 89, .int .u8 80, .int .u8 83] 5 fr)) (some ⟨w.heap.size, 0, none⟩) [71, 89, 80, 83] := by
  refine ⟨by simp, fun _ => ⟨_, 0, rfl, fun i hi => ?_⟩⟩
  rw [World.cell?_alloc_mark]
  simp at hi
  match i, hi with
  | 0, _ => rfl
  | 1, _ => rfl
  | 2, _ => rfl
  | 3, _ => rfl
set_option maxHeartbeats 2000000 in
theorem number2_full (b off n N : Nat) (xs : List Nat) (w : World) (hB : Byt w (some ⟨b, off, none⟩) xs) (hx : xs.length = n) (hn : n ≤ 1000000) (hN : N < 65536) :
    Calls Tryz.prog 32 #[.slice (some ⟨b, off, none⟩) n n, .int .i64 (N : Int), .int .i64 2] w fun e w' => ∃ v', e = .returned v' ∧ w'.ownsRow w.heap.size 5 1 v' (n + 2) (bys xs ++ bys (num2 N)) ∧ Below w.heap.size w w' := by
  obtain ⟨i0, hi0, hz0, hz1, hz2⟩ := info_parts byte_info
  have hba := fun (o : Obj) => (hB.below ((Below.refl _ _).alloc (Nat.le_refl _) o)).cells
  have HBA := Lib.hid hba
  have HI := Lib.hid hi0
  have HZ0 := Lib.hid hz0
  have HZ1 := Lib.hid hz1
  have HZ2 := Lib.hid hz2
  clear hba hB hi0 hz0 hz1 hz2
  go_enter Tryz.func32, Tryz.ntmps32
  go_wp2
  refine wp_loop_rounds 3 ?_
  rw [rounds_succ]
  go_wp2_with (at_builtin; go_must (refine wpList_append_grows _ rfl (.tmp 14) (.tmp 20) 25 rfl 5 i0 _ 1 1 Tryz.underlying25 HI.out HZ0.out HZ1.out HZ2.out rfl (by decide) (some ⟨b, off, none⟩) n n (bys xs) rfl (by simp) (by simp [bys_len, hx]) (by intro b' hb'; injection hb' with hb'; subst hb'; exact HBA.out _) _ 1 1 [.int .u8 ((N / 256 : Nat) : Int)] rfl rfl (newsA (by first | rfl | simp)) (by simp [Value.oneCell']) (by omega) (by unfold maxLen; omega) (by omega) ?_); intro v1 w1 own1 hg1)
  have HB1 := Lib.hid (Below.grown (below_alloc (Below.refl w.heap.size w) (.cells #[.int .u8 ((N / 256 : Nat) : Int)] 5)) hg1 (by simp) (fun k hk => by cases hk))
  have own1 : w1.ownsRow w.heap.size 5 1 v1 (n + 1) (bys xs ++ bys [N / 256]) := own_base own1 (by simp)
  clear hg1
  rw [rounds_succ]
  go_wp2_with (at_builtin; refine wpList_append_byt rfl (.tmp 14) (.tmp 20) rfl w.heap.size _ (n + 1) (bys xs ++ bys [N / 256]) rfl (own1.alloc _) _ 1 [(N) % 256] rfl (byt1z (by first | rfl | (simp; done) | omega) (by omega) rfl) (by simp; omega) (by have := HB1.out.size; simp; omega) ?_; intro v2 w2 own2 hg2 hv2)
  have HB2 := Lib.hid (app_below (below_alloc HB1.out _) (own1.alloc _) hg2)
  have own2 : w2.ownsRow w.heap.size 5 1 v2 (n + 2) _ := own2
  clear hg2 hv2
  rw [rounds_succ]
  go_wp2
  go_ret
  refine ⟨_, rfl, ?_, HB2.out⟩
  refine (congrArg (fun l => World.ownsRow _ w.heap.size 5 1 _ _ l) ?_).mp own2
  simp [bys, num2]
  omega
theorem fixedL_len (n : Nat) : (fixedL n).length = 10 := by simp [fixedL, sealL, num2, low4]
theorem Blk.drew' {w : World} {g : Nat} {t : TypeId} {cs : Array Value} (h : Blk w g t cs) : Blk w.drew g t cs := h
/-- a row that is done, and one that grows -/
def Two (w W : World) (f t : Value) (fl : List Nat) (n : Nat) (ts : List Value) : Prop :=
  Below w.heap.size w W ∧ W.ownsRow w.heap.size 5 1 f fl.length (bys fl) ∧ W.ownsRow w.heap.size 5 1 t n ts ∧ ∃ g, f.ownBlock = some g ∧ t.ownBlock ≠ some g
theorem Two.below {w W W' : World} {f t : Value} {fl : List Nat} {n : Nat} {ts : List Value} (h : Two w W f t fl n ts) (hb : Below W.heap.size W W') : Two w W' f t fl n ts :=
  ⟨below_then h.1 hb, own_below h.2.1 hb, own_below h.2.2.1 hb, h.2.2.2⟩
theorem Two.bel {w W : World} {f t : Value} {fl : List Nat} {n : Nat} {ts : List Value} (h : Two w W f t fl n ts) : Below w.heap.size w W := h.1
theorem Two.row {w W : World} {f t : Value} {fl : List Nat} {n : Nat} {ts : List Value} (h : Two w W f t fl n ts) : W.ownsRow w.heap.size 5 1 t n ts := h.2.2.1
theorem Two.fix {w W : World} {f t : Value} {fl : List Nat} {n : Nat} {ts : List Value} (h : Two w W f t fl n ts) : W.ownsRow w.heap.size 5 1 f fl.length (bys fl) := h.2.1
theorem sealL_lt {xs : List Nat} (h : ∀ x ∈ xs, x < 256) : ∀ x ∈ sealL xs, x < 256 := by
  intro x hx
  rw [sealL, List.mem_append] at hx
  rcases hx with hx | hx
  · exact h x hx
  · exact low4_lt _ x hx
theorem fixedL_lt (n : Nat) : ∀ x ∈ fixedL n, x < 256 := sealL_lt (by intro x hx; simp [num2] at hx; omega)
theorem Two.grow {w W W' : World} {f t t' : Value} {fl : List Nat} {n n' : Nat} {ts ts' : List Value} (h : Two w W f t fl n ts) (hg : W.grownBy W' t.ownBlock) (ho : W'.ownsRow w.heap.size 5 1 t' n' ts') (hv : NewOr W t.ownBlock t'.ownBlock) : Two w W' f t' fl n' ts' := by
  obtain ⟨hb, h1, h2, g, e1, e2⟩ := h
  refine ⟨app_below hb h2 hg, h1.kept hg (.inr (by rw [e1]; exact fun e => e2 e.symm)), ho, g, e1, ?_⟩
  rcases hv with e | ⟨g', e, hle⟩
  · rw [e]; exact e2
  · rw [e]
    intro e3
    injection e3 with e3
    have := (h1.lt g e1).2
    omega
def HeadRel (cs : List (Nat × List Nat)) (n : Nat) (w : World) (f t i : Value) (wr : World) : Prop :=
  ∃ k : Nat, k ≤ n ∧ i = .int .i64 k ∧ Two w wr f t (fixedL n) (9 * k) (bys (rowsTo cs k))
set_option maxRecDepth 100000 in
set_option maxHeartbeats 4000000 in
theorem heads_n (A : Option Addr) (c n : Nat) (cs : List (Nat × List Nat)) (w : World) (hC : Cks w A cs) (hn : cs.length = n) (hM : Mild cs) :
    Calls Tryz.prog 13 #[.slice A n c] w fun e w' => ∃ v1 v2, e = .returned (.tuple #[v1, v2]) ∧ ownD w' w.heap.size v1 (fixedL n) ∧ ownD w' w.heap.size v2 (tableL cs) ∧ Below w.heap.size w w' := by
  have hle : n ≤ 1000 := by rw [← hn]; exact hM.1
  have HC := Lib.hid hC
  have HM := Lib.hid hM
  have HN := Lib.hid hn
  clear hC hM hn
  have hcv := fun W => Lib.run_convert_bytes_const (P := Tryz.prog) W 25 5 #[.int .u8 71, .int .u8 89, .int .u8 80, .int .u8 83] 4 4 Tryz.underlying25 Tryz.underlying5
  go_enter Tryz.func13, Tryz.ntmps13
  go_wp2_with fail
  refine (number2_full w.heap.size 0 4 n [71, 89, 80, 83] _ byt4mark rfl (by omega) (by omega)).mono ?_
  rintro e w1 ⟨v1, rfl, hown1, hb1⟩
  have HB1 := Lib.hid (below_then (below_alloc (Below.refl w.heap.size w) _) hb1)
  have HO1 : Hid (w1.ownsRow w.heap.size 5 1 v1 ([71, 89, 80, 83] ++ num2 n).length (bys ([71, 89, 80, 83] ++ num2 n))) := by
    show World.ownsRow _ _ _ _ _ _ _
    rw [bys_app]
    exact own_base hown1 (by simp)
  clear hown1 hb1 hcv
  go_wp2_with fail
  refine (summed_any w.heap.size v1 _ w1 (by intro x hx; simp [num2] at hx; omega) HO1.out HB1.out.size (by simp [num2])).mono ?_
  rintro e w2 ⟨v2, rfl, hown2, hg2, _⟩
  have HO2 : Hid (w2.ownsRow w.heap.size 5 1 v2 (fixedL n).length (bys (fixedL n))) := Lib.hid hown2
  have HB2 := Lib.hid (app_below HB1.out HO1.out hg2)
  clear hown2 hg2 HO1 HB1
  go_wp2_with fail
  obtain ⟨g2, cap2, rfl, _⟩ := HO2.out.form (by rw [fixedL_len]; omega)
  have hT0 : Two w w2 (.slice (some ⟨g2, 0, none⟩) (fixedL n).length cap2) (.slice none 0 0) (fixedL n) (9 * 0) (bys (rowsTo cs 0)) :=
    ⟨HB2.out, HO2.out, World.ownsRow_nil _ _ _ _, g2, rfl, by simp [Value.ownBlock]⟩
  go_loopw [3, 15] (fun t i wr => HeadRel cs n w (.slice (some ⟨g2, 0, none⟩) (fixedL n).length cap2) t i wr) (fun _ i _ => n - (intOf i).toNat)
  case atStart => exact ⟨0, by omega, rfl, hT0⟩
  case round =>
    clear hT0
    obtain ⟨k, hk, rfl, hT⟩ := hrel
    obtain ⟨wo, rfl⟩ : ∃ wo : World, wo = wr := ⟨_, rfl⟩
    by_cases hlt : k < n
    · obtain ⟨b, off, rfl, hcs⟩ := HC.out (by rw [HN.out]; omega)
      obtain ⟨c0, hk256, P, cP, c1, hP, hPc⟩ := hcs k (by rw [HN.out]; omega)
      have hm1000 := (HM.out.2 k (by rw [HN.out]; omega)).2.1
      have e0 := (hT.1.cell (World.block_lt_of_cell? _ _ c0)).trans c0
      have e1 := (hT.1.cell (World.block_lt_of_cell? _ _ c1)).trans c1
      have HP := Lib.hid hP
      have HS : Hid (rowsTo cs (k + 1) = rowsTo cs k ++ ([(cs.getD k default).1] ++ num4 (cs.getD k default).2.length ++ low4 (sumOf (cs.getD k default).2))) := rfl
      have HT := Lib.hid hT
      clear hcs c0 c1 hP hT
      generalize hd : (cs.getD k default).2 = data at *
      generalize (cs.getD k default).1 = kd at *
      clear hd
      have hbx := (Below.refl wo.heap.size wo).alloc (Nat.le_refl _) (.cells #[.int .u8 (kd : Int), .slice P data.length cP] 27)
      have hkx := Blk.new (w := wo) (g := wo.heap.size) (t := 27) (cs := #[.int .u8 (kd : Int), .slice P data.length cP]) rfl
      have HBX := Lib.hid hbx
      have HKX := Lib.hid hkx
      clear hbx hkx
      go_wp2_with fail
      generalize wo.alloc (.cells #[.int .u8 (kd : Int), .slice P data.length cP] 27) = wx at *
      have r0 : ∀ w' : World, Blk w' wo.heap.size 27 #[.int .u8 (kd : Int), .slice P data.length cP] → w'.cell? ⟨wo.heap.size, 0, none⟩ = some (.int .u8 (kd : Int)) := fun w' h => h.cell 0
      have r1 : ∀ w' : World, Blk w' wo.heap.size 27 #[.int .u8 (kd : Int), .slice P data.length cP] → w'.cell? ⟨wo.heap.size, 1, none⟩ = some (.slice P data.length cP) := fun w' h => h.cell 1
      have hkx := HKX.out
      have hbx := Below.refl wx.heap.size wx
      have TX := Lib.hid (HT.out.below HBX.out)
      have hsz : ∀ W : World, Below wx.heap.size wx W → w.heap.size ≤ W.heap.size := fun W h => Nat.le_trans (Nat.le_trans HT.out.bel.size HBX.out.size) h.size
      go_region_held3 (fun w' => Blk w' wo.heap.size 27 #[.int .u8 (kd : Int), .slice P data.length cP]) (repeat' (first | with_reducible assumption | with_reducible refine Blk.drew' ?_ | with_reducible refine Blk.alloc ?_ _))
        (first
          | (refine step_append_byt (by rfl) _ _ (by rfl) w.heap.size _ (9 * k) _ (by rfl) (own_below TX.out.row (by (repeat' (first | with_reducible assumption | with_reducible exact Below.refl _ _ | with_reducible refine Below.drew ?_ | with_reducible refine below_alloc ?_ _ | with_reducible refine below_set ?_ ?_ _ | with_reducible refine below_then ?_ (by with_reducible assumption) | with_reducible exact Nat.le_refl _ | with_reducible exact Below.size (by with_reducible assumption))))) _ 1 [kd] (by rfl) (byt1z (by rfl) hk256 rfl) (by simp; omega) (hsz _ (by (repeat' (first | with_reducible assumption | with_reducible exact Below.refl _ _ | with_reducible refine Below.drew ?_ | with_reducible refine below_alloc ?_ _ | with_reducible refine below_set ?_ ?_ _ | with_reducible refine below_then ?_ (by with_reducible assumption) | with_reducible exact Nat.le_refl _ | with_reducible exact Below.size (by with_reducible assumption))))) ?_; intro v6 w6 own6 hg6 hv6; have hk6 : Blk w6 wo.heap.size 27 #[.int .u8 (kd : Int), .slice P data.length cP] := Blk.grown (by (repeat' (first | with_reducible assumption | with_reducible refine Blk.drew' ?_ | with_reducible refine Blk.alloc ?_ _))) (own_below TX.out.row (by (repeat' (first | with_reducible assumption | with_reducible exact Below.refl _ _ | with_reducible refine Below.drew ?_ | with_reducible refine below_alloc ?_ _ | with_reducible refine below_set ?_ ?_ _ | with_reducible refine below_then ?_ (by with_reducible assumption) | with_reducible exact Nat.le_refl _ | with_reducible exact Below.size (by with_reducible assumption))))) hg6 (by decide); have ht6 := (TX.out.below (by (repeat' (first | with_reducible assumption | with_reducible exact Below.refl _ _ | with_reducible refine Below.drew ?_ | with_reducible refine below_alloc ?_ _ | with_reducible refine below_set ?_ ?_ _ | with_reducible refine below_then ?_ (by with_reducible assumption) | with_reducible exact Nat.le_refl _ | with_reducible exact Below.size (by with_reducible assumption))))).grow hg6 own6 (NewOr.one (Nat.le_refl _) hv6))
          | (go_at_call 32; (with_reducible refine Calls.mono (number4_any w.heap.size (9 * k + 1) data.length v6 _ w6 own6 ht6.bel.size (by omega) (by omega)) ?_); rintro e w7 ⟨v7, rfl, own7, hg7, hv7⟩; have hk7 : Blk w7 wo.heap.size 27 #[.int .u8 (kd : Int), .slice P data.length cP] := Blk.grown hk6 own6 hg7 (by decide); have ht7 := ht6.grow hg7 own7 hv7))
      have HT7 := Lib.hid ht7
      have HK7 := Lib.hid hk7
      have HSUM := Lib.hid (sum_any P cP data w7 (HP.out.below HT7.out.bel) (by unfold maxLen; omega))
      have hs32 : sumOf data < 4294967296 := by unfold sumOf; omega
      have q1 := HK7.out.cell 1
      clear r0 r1 hkx hbx hsz hk6 ht6 own6 hg6 hv6 hk7 ht7 own7 hg7 hv7 e0 e1 HT HBX HKX TX
      generalize sumOf data = sm at *
      go_wp2_with fail
      refine (HSUM.out).mono ?_
      rintro e w8 ⟨rfl, rfl⟩
      go_wp2_with (at_builtin; refine wpList_append_byt rfl (.tmp 31) (.tmp 43) rfl w.heap.size _ (9 * k + 1 + 4) _ rfl (HT7.out.row.alloc _) _ 4 (low4 sm) rfl (byt4z (by first | rfl | (simp; done) | (simp; omega) | omega) (by first | rfl | (simp; done) | (simp; omega) | omega) (by first | rfl | (simp; done) | (simp; omega) | omega) (by first | rfl | (simp; done) | (simp; omega) | omega) (by omega) (by omega) (by omega) (by omega) rfl) (by simp [low4]; omega) (by have := HT7.out.bel.size; simp; omega) ?_; intro v9 w9 own9 hg9 hv9; have HT9 := Lib.hid ((HT7.out.below (below_alloc (Below.refl _ _) _)).grow hg9 own9 (NewOr.one (Nat.le_refl _) hv9)); clear own9 hg9 hv9)
      refine ⟨⟨k + 1, by omega, by go_num, ?_⟩, by simp [intOf]; omega⟩
      rw [HS.out, bys_app, bys_app, bys_app]
      have e4 : 9 * (k + 1) = 9 * k + 1 + 4 + (low4 sm).length := by simp [low4]; omega
      rw [e4, ← List.append_assoc, ← List.append_assoc]
      exact HT9.out
    · obtain rfl : k = n := by omega
      have HT := Lib.hid hT
      clear hT
      have hrow := HT.out.row
      rw [← rowsTo_len cs k] at hrow
      go_wp2_with fail
      refine (summed_any w.heap.size _ (rowsTo cs k) wo (rowsTo_lt HM.out k (by rw [HN.out]; exact Nat.le_refl _)) hrow HT.out.bel.size (by rw [rowsTo_len]; omega)).mono ?_
      rintro e w9 ⟨v9, rfl, own9, hg9, hv9⟩
      have HT9 := Lib.hid (HT.out.grow hg9 own9 hv9)
      have HTL : Hid (tableL cs = sealL (rowsTo cs k)) := by
        show _ = _
        rw [tableL, HN.out]
      clear hrow own9 hg9 hv9
      go_wp2
      go_ret2
      exact ⟨_, _, rfl, ⟨fixedL_lt _, HT9.out.fix⟩, ⟨by rw [HTL.out]; exact sealL_lt (rowsTo_lt HM.out k (by rw [HN.out]; exact Nat.le_refl _)), by rw [HTL.out]; exact HT9.out.row⟩, HT9.out.bel⟩
end Go.Proofs.YtnbhgeehlcjmdaaGreat
/-! The box of chunks: walk of box.Pack. -/
namespace Go.Proofs.YtnbhgeehlcjmdaaGreat
open Go.RowKit

def dataTo (cs : List (Nat × List Nat)) : Nat → List Nat
  | 0 => []
  | k + 1 => dataTo cs k ++ (cs.getD k default).2
def packL (cs : List (Nat × List Nat)) : List Nat :=
  catTo [fixedL cs.length, tableL cs, [0, 0, 0, 0], dataTo cs cs.length, [0, 0, 0, 0], tableL cs, fixedL cs.length] 7
theorem dataTo_len {cs : List (Nat × List Nat)} (h : Mild cs) : ∀ k, k ≤ cs.length → (dataTo cs k).length ≤ 1000 * k
  | 0, _ => by simp [dataTo]
  | k + 1, hk => by
    have := dataTo_len h k (by omega)
    have := (h.2 k (by omega)).2.1
    rw [dataTo, List.length_append]
    omega
theorem dataTo_lt {cs : List (Nat × List Nat)} (h : Mild cs) : ∀ k, k ≤ cs.length → ∀ x ∈ dataTo cs k, x < 256
  | 0, _ => by simp [dataTo]
  | k + 1, hk => by
    intro x hx
    rw [dataTo, List.mem_append] at hx
    rcases hx with hx | hx
    · exact dataTo_lt h k (by omega) x hx
    · exact (h.2 k (by omega)).2.2 x hx
theorem tableL_len (cs : List (Nat × List Nat)) : (tableL cs).length = 9 * cs.length + 4 := by simp [tableL, sealL, low4, rowsTo_len]
theorem tableL_lt {cs : List (Nat × List Nat)} (h : Mild cs) : ∀ x ∈ tableL cs, x < 256 := sealL_lt (rowsTo_lt h _ (Nat.le_refl _))
theorem packL_eq (cs : List (Nat × List Nat)) : packL cs = fixedL cs.length ++ tableL cs ++ [0, 0, 0, 0] ++ dataTo cs cs.length ++ [0, 0, 0, 0] ++ tableL cs ++ fixedL cs.length := by
  simp [packL, catTo]
theorem packL_len (cs : List (Nat × List Nat)) : (packL cs).length = 36 + 18 * cs.length + (dataTo cs cs.length).length := by
  rw [packL_eq]
  simp [fixedL_len, tableL_len]
  omega
theorem packL_lt {cs : List (Nat × List Nat)} (h : Mild cs) : ∀ x ∈ packL cs, x < 256 := by
  intro x hx
  rw [packL_eq] at hx
  simp only [List.mem_append] at hx
  have z : ∀ x ∈ [0, 0, 0, 0], x < 256 := by simp
  rcases hx with (((((hx | hx) | hx) | hx) | hx) | hx) | hx
  · exact fixedL_lt _ x hx
  · exact tableL_lt h x hx
  · exact z x hx
  · exact dataTo_lt h _ (Nat.le_refl _) x hx
  · exact z x hx
  · exact tableL_lt h x hx
  · exact fixedL_lt _ x hx
theorem byt4zero {w : World} : Byt (w.alloc (.cells #[.int .u8 0, .int .u8 0, .int .u8 0, .int .u8 0] 5)) (some ⟨w.heap.size, 0, none⟩) [0, 0, 0, 0] :=
  byt4z (by rfl) (by rfl) (by rfl) (by rfl) (by omega) (by omega) (by omega) (by omega) rfl
set_option maxRecDepth 100000 in
set_option maxHeartbeats 4000000 in
theorem pack_n (A : Option Addr) (c n : Nat) (cs : List (Nat × List Nat)) (w : World) (hC : Cks w A cs) (hn : cs.length = n) (hM : Mild cs) :
    Calls Tryz.prog 5 #[.slice A n c] w fun e w' => ∃ v, e = .returned (.tuple #[v, .int .i64 0]) ∧ ownD w' w.heap.size v (packL cs) ∧ Below w.heap.size w w' := by
  have hle : n ≤ 1000 := by rw [← hn]; exact hM.1
  have HC := Lib.hid hC
  have HM := Lib.hid hM
  have HN := Lib.hid hn
  have HL : Hid (∀ k, k ≤ n → (dataTo cs k).length ≤ 1000 * k) := fun k hk => dataTo_len hM k (by rw [hn]; exact hk)
  clear hC hM hn
  go_enter Tryz.func5, Tryz.ntmps5
  go_wp2
  go_loopw [4, 22] (fun s i wr => ∃ k : Nat, k ≤ n ∧ i = .int .i64 k ∧ s = .int .i64 ((36 + 18 * n + (dataTo cs k).length : Nat) : Int) ∧ Below w.heap.size w wr) (fun _ i _ => n - (intOf i).toNat)
  case atStart => exact ⟨0, by omega, rfl, by simp [dataTo]; omega, Below.refl _ _⟩
  case round =>
    obtain ⟨k, hk, rfl, rfl, hb⟩ := hrel
    obtain ⟨wo, rfl⟩ : ∃ wo : World, wo = wr := ⟨_, rfl⟩
    by_cases hlt : k < n
    · obtain ⟨b, off, rfl, hcs⟩ := HC.out (by rw [HN.out]; omega)
      obtain ⟨c0, hk256, P, cP, c1, hP, hPc⟩ := hcs k (by rw [HN.out]; omega)
      have hm1000 := (HM.out.2 k (by rw [HN.out]; omega)).2.1
      have hl1 := HL.out k hk
      have e0 := (hb.cell (World.block_lt_of_cell? _ _ c0)).trans c0
      have e1 := (hb.cell (World.block_lt_of_cell? _ _ c1)).trans c1
      have HS : Hid ((dataTo cs (k + 1)).length = (dataTo cs k).length + (cs.getD k default).2.length) := by
        show _ = _
        rw [dataTo, List.length_append]
      have HB := Lib.hid (below_alloc hb (.cells #[.int .u8 (((cs.getD k default).1 : Nat) : Int), .slice P (cs.getD k default).2.length cP] 27))
      clear hcs c0 c1 hP hb
      generalize (cs.getD k default).2.length = m at *
      generalize (cs.getD k default).1 = kd at *
      generalize (dataTo cs k).length = L at *
      go_wp2
      refine ⟨⟨k + 1, by omega, by go_num, ?_, HB.out⟩, by simp [intOf]; omega⟩
      rw [HS.out]
      go_num
    · obtain rfl : k = n := by omega
      have hl1 := HL.out k (Nat.le_refl _)
      have hd1 : decide ((1024 : Int) < (k : Int)) = false := by rw [decide_eq_false_iff_not]; omega
      have HB := Lib.hid hb
      clear hb
      generalize hL : (dataTo cs k).length = L at *
      have hd2 : decide ((4194304 : Int) < ((36 + 18 * k + L : Nat) : Int)) = false := by rw [decide_eq_false_iff_not]; omega
      generalize 36 + 18 * k + L = sz at *
      go_wp2_with fail
      refine (heads_n A c k cs wo (fun h0 => (Cks.below HC.out HB.out) h0) HN.out HM.out).mono ?_
      rintro e w1 ⟨v1, v2, rfl, hf, ht, hb1⟩
      obtain ⟨A1, c1, rfl, hB1, hc1, _⟩ := Byt.of_own hf.2 hf.1
      obtain ⟨A2, c2, rfl, hB2, hc2, _⟩ := Byt.of_own ht.2 ht.1
      have HB1 := Lib.hid (below_then HB.out hb1)
      have HF1 := Lib.hid hB1
      have HF2 := Lib.hid hB2
      have hf1 := fixedL_len k
      have hf2 : (tableL cs).length = 9 * k + 4 := by rw [tableL_len, HN.out]
      have HLF1 := Lib.hid hf1
      have HLF2 := Lib.hid hf2
      rw [hf1] at hc1 ⊢
      rw [hf2] at hc2 ⊢
      clear hf ht hb1 hB1 hB2 hd1 hd2 hf1 hf2 hl1 hL
      go_wp2
      go_loopw [9, 46] (fun d i wr => ∃ j : Nat, j ≤ k ∧ i = .int .i64 j ∧ Below w1.heap.size w1 wr ∧ wr.ownsRow w1.heap.size 5 1 d (dataTo cs j).length (bys (dataTo cs j))) (fun _ i _ => k - (intOf i).toNat)
      case atStart => exact ⟨0, by omega, rfl, Below.refl _ _, World.ownsRow_nil _ _ _ _⟩
      case round =>
        obtain ⟨j, hj, rfl, hb, hown⟩ := hrel
        obtain ⟨wp, rfl⟩ : ∃ wp : World, wp = wr := ⟨_, rfl⟩
        by_cases hlt2 : j < k
        · obtain ⟨b, off, rfl, hcs⟩ := HC.out (by rw [HN.out]; omega)
          obtain ⟨c0, hk256, P, cP, c1, hP, hPc⟩ := hcs j (by rw [HN.out]; omega)
          have hm1000 := (HM.out.2 j (by rw [HN.out]; omega)).2.1
          have hl1 := HL.out j hj
          have hbj := below_then HB1.out hb
          have e0 := (hbj.cell (World.block_lt_of_cell? _ _ c0)).trans c0
          have e1 := (hbj.cell (World.block_lt_of_cell? _ _ c1)).trans c1
          have HP := Lib.hid (hP.below hbj)
          have HS : Hid (dataTo cs (j + 1) = dataTo cs j ++ (cs.getD j default).2) := rfl
          have HBP := Lib.hid hb
          have HOWN := Lib.hid hown
          clear hcs c0 c1 hP hb hown hbj
          generalize (cs.getD j default).2 = y at *
          generalize (cs.getD j default).1 = kd at *
          generalize dataTo cs j = X at *
          have hbx := (Below.refl wp.heap.size wp).alloc (Nat.le_refl _) (.cells #[.int .u8 (kd : Int), .slice P y.length cP] 27)
          have HBX := Lib.hid hbx
          clear hbx
          go_wp2_with (at_builtin; refine wpList_append_byt rfl (.tmp 50) (.tmp 52) rfl w1.heap.size _ X.length (bys X) rfl (own_below HOWN.out HBX.out) P cP y rfl (HP.out.below HBX.out) (by omega) (Nat.le_trans HBP.out.size HBX.out.size) ?_; intro v5 w5 own5 hg5 _hv5; have HB5 := Lib.hid (app_below (below_then HBP.out HBX.out) (own_below HOWN.out HBX.out) hg5); have HO5 := Lib.hid own5; clear own5 hg5 _hv5)
          refine ⟨⟨j + 1, by omega, by go_num, HB5.out, ?_⟩, by simp [intOf]; omega⟩
          rw [HS.out, List.length_append, bys_app]
          exact HO5.out
        · obtain rfl : j = k := by omega
          have hl1 := HL.out j (Nat.le_refl _)
          obtain ⟨A3, c3, rfl, hB3, hc3, _⟩ := Byt.of_own hown (dataTo_lt HM.out j (by rw [HN.out]; exact Nat.le_refl _))
          have HB3 := Lib.hid hb
          have HF3 := Lib.hid hB3
          have HPL : Hid (packL cs = catTo [fixedL j, tableL cs, [0, 0, 0, 0], dataTo cs j, [0, 0, 0, 0], tableL cs, fixedL j] 7) := by
            show _ = _
            rw [packL, HN.out]
          have HPN : Hid ((packL cs).length = 36 + 18 * j + (dataTo cs j).length) := by
            show _ = _
            rw [packL_len, HN.out]
          clear hb hown hB3
          generalize hD : dataTo cs j = D at *
          have hmk : ∀ W : World, (Instr.makeSlice 25 (.int .i64 4) (.int .i64 4)).run Tryz.prog W = .ok (.slice (some ⟨W.heap.size, 0, none⟩) 4 4) (W.alloc (.cells #[.int .u8 0, .int .u8 0, .int .u8 0, .int .u8 0] 5)) := fun W => by
            have := run_make_row' (P := Tryz.prog) 25 5 (.int .u8 0) 1 Tryz.underlying25 byte_info rfl .i64 .i64 4 (by decide) (by decide) W
            have e : madeCells #[Value.int .u8 0] 4 = #[.int .u8 0, .int .u8 0, .int .u8 0, .int .u8 0] := by apply Array.ext'; rw [toList_madeCells_one]; rfl
            rw [e] at this
            exact this
          go_wp2_with fail
          have hbw := below_alloc (Below.refl wp.heap.size wp) (.cells #[.int .u8 0, .int .u8 0, .int .u8 0, .int .u8 0] 5)
          have hbz := Lib.hid (byt4zero (w := wp))
          refine (Calls.mono (concat_n _ _ 7 [fixedL j, tableL cs, [0, 0, 0, 0], D, [0, 0, 0, 0], tableL cs, fixedL j] _ (rws_blk (vs := [_, _, _, _, _, _, _]) (Blk.new (by simp)) ?_) rfl (by decide) ?_) ?_)
          · have hx := below_alloc (Below.refl _ _) (w := wp.alloc (.cells #[.int .u8 0, .int .u8 0, .int .u8 0, .int .u8 0] 5)) (.cells #[.slice A1 10 c1, .slice A2 (9 * j + 4) c2, .slice (some ⟨wp.heap.size, 0, none⟩) 4 4, .slice A3 D.length c3, .slice (some ⟨wp.heap.size, 0, none⟩) 4 4, .slice A2 (9 * j + 4) c2, .slice A1 10 c1] 25)
            have g1 : bytD _ (.slice A1 10 c1) (fixedL j) := ⟨A1, c1, by rw [HLF1.out], (HF1.out.below (below_then HB3.out hbw)).below hx, by rw [HLF1.out]; exact hc1⟩
            have g2 : bytD _ (.slice A2 (9 * j + 4) c2) (tableL cs) := ⟨A2, c2, by rw [HLF2.out], (HF2.out.below (below_then HB3.out hbw)).below hx, by rw [HLF2.out]; exact hc2⟩
            have g3 : bytD _ (.slice A3 D.length c3) D := ⟨A3, c3, rfl, (HF3.out.below hbw).below hx, hc3⟩
            have g4 : bytD _ (.slice (some ⟨wp.heap.size, 0, none⟩) 4 4) [0, 0, 0, 0] := ⟨_, 4, rfl, hbz.out.below hx, by decide⟩
            exact ⟨_, _, rfl, g1, _, _, rfl, g2, _, _, rfl, g4, _, _, rfl, g3, _, _, rfl, g4, _, _, rfl, g2, _, _, rfl, g1, rfl⟩
          · rw [← HPL.out, HPN.out]; omega
          · rintro e w9 ⟨v9, rfl, hown9, hb9⟩
            rw [← HPL.out] at hown9
            have HB9 := Lib.hid (below_then (below_alloc (below_then (below_then HB1.out HB3.out) hbw) _) hb9)
            have HO9 : Hid (w9.ownsRow w.heap.size 5 1 v9 (packL cs).length (bys (packL cs))) := own_base hown9 (Nat.le_trans (below_then (below_then HB1.out HB3.out) hbw).size (by simp))
            clear hbw hbz hown9 hb9
            go_wp2
            go_ret2
            exact ⟨_, rfl, ⟨packL_lt HM.out, HO9.out⟩, HB9.out⟩
end Go.Proofs.YtnbhgeehlcjmdaaGreat
