/- The chunks that a table tells: walk of box.parts. -/
import Derived.Test.YtnbhgeehlcjmdaaGreatD10
namespace Go.Proofs.YtnbhgeehlcjmdaaGreat
open Go.RowKit

def partOf (xs t : List Nat) (at0 : Int) (i : Nat) : Prt :=
  if 0 ≤ at0 + (rowSum t i : Nat) ∧ at0 + (rowSum t i : Nat) + (rowN t i : Nat) ≤ xs.length ∧ rightB (((xs.drop (at0 + (rowSum t i : Nat)).toNat).take (rowN t i)) ++ ((t.drop (9 * i + 5)).take 4)) = true then
    ⟨t.getD (9 * i) 0, (xs.drop (at0 + (rowSum t i : Nat)).toNat).take (rowN t i), at0 + (rowSum t i : Nat), true⟩ else ⟨t.getD (9 * i) 0, [], at0 + (rowSum t i : Nat), false⟩
def partsL (xs t : List Nat) (at0 : Int) : Nat → List Prt
  | 0 => []
  | k + 1 => partsL xs t at0 k ++ [partOf xs t at0 k]
theorem partsL_len (xs t : List Nat) (at0 : Int) : ∀ k, (partsL xs t at0 k).length = k
  | 0 => rfl
  | k + 1 => by simp [partsL, partsL_len xs t at0 k]
def PartRel (xs t : List Nat) (at0 : Int) (N : Nat) (w : World) (a v i : Value) (wr : World) : Prop :=
  ∃ (k : Nat) (rows : List Value), k ≤ N ∧ i = .int .i64 k ∧ a = .int .i64 (at0 + (rowSum t k : Nat)) ∧ Below w.heap.size w wr ∧ wr.ownsRow w.heap.size 37 4 v k rows ∧ RowP (ownD wr w.heap.size) (partsL xs t at0 k) rows
theorem part_end {xs t : List Nat} {at0 aa : Int} {N k m sm kd : Nat} {w wo wz w2 : World} {v v2 dv : Value} {rows : List Value} {done : List Prt} {data : List Nat} {wh : Bool} {po : Prt} {o : Obj}
    (hb : Hid (Below w.heap.size w wo)) (hown : Hid (wo.ownsRow w.heap.size 37 4 v k rows)) (hrw : Hid (RowP (ownD wo w.heap.size) done rows)) (hz : Below wo.heap.size wo wz) (hd : ownD wz w.heap.size dv data) (hkd : kd < 256) (hk : k < N)
    (hP : Hid (partsL xs t at0 (k + 1) = done ++ [po])) (hpo : po = ⟨kd, data, aa, wh⟩) (hS : Hid (rowSum t (k + 1) = sm + m)) (hsm : Hid (∀ m : Nat, at0 + ((sm + m : Nat) : Int) = aa + (m : Int)))
    (own2 : w2.ownsRow w.heap.size 37 4 v2 (k + 1) (rows ++ [.int .u8 (kd : Int), dv, .int .i64 aa, .bool wh])) (hg : (wz.alloc o).grownBy w2 v.ownBlock) :
    PartRel xs t at0 N w (.int .i64 (aa + (m : Int))) v2 (.int .i64 ((k + 1 : Nat) : Int)) w2 := by
  have hownz : (wz.alloc o).ownsRow w.heap.size 37 4 v k rows := own_below hown.out (below_alloc hz o)
  have hbz : Below w.heap.size w (wz.alloc o) := below_alloc (below_then hb.out hz) o
  refine ⟨k + 1, _, by omega, rfl, ?_, app_below hbz hownz hg, own2, ?_⟩
  · rw [hS.out, hsm.out m]
  · rw [hP.out, hpo]
    refine RowP.snoc (p := ⟨kd, data, aa, wh⟩) (hrw.out.mono fun u l h => ⟨h.1, own_grown (own_below h.2 (below_alloc hz o)) hownz hg (by decide)⟩) hkd ⟨hd.1, own_grown (own_below hd.2 (below_alloc (Below.refl _ _) o)) hownz hg (by decide)⟩
theorem cells4 {a b c d : Value} (ha : a.oneCell' = true) (hb : b.oneCell' = true) (hc : c.oneCell' = true) (hd : d.oneCell' = true) : ∀ u ∈ [a, b, c, d], u.oneCell' = true := by
  intro u hu
  simp at hu
  rcases hu with rfl | rfl | rfl | rfl <;> assumption
set_option maxRecDepth 100000 in
set_option maxHeartbeats 4000000 in
theorem parts_n (b off : Nat) (T : Option Addr) (c n cT N : Nat) (at0 : Int) (xs t : List Nat) (w : World) (hB : Byt w (some ⟨b, off, none⟩) xs) (hn : xs.length = n) (hc : n ≤ c) (hu : n ≤ 50000)
    (hT : Byt w T t) (ht : t.length = 4 + 9 * N) (hcT : 4 + 9 * N ≤ cT) (hN : N < 65536) (ha1 : -1000000000000000 ≤ at0) (ha2 : at0 ≤ 1000000000000000) :
    Calls Tryz.prog 18 #[.slice (some ⟨b, off, none⟩) n c, .slice T (4 + 9 * N) cT, .int .i64 at0] w fun e w' => ∃ A' c', e = .returned (.slice A' N c') ∧ Prs w' A' (partsL xs t at0 N) ∧ Below w.heap.size w w' := by
  obtain ⟨bt, ot, rfl, _⟩ := hT.2 (by omega)
  have HSUM := Lib.hid (rowSum_le hT)
  have HROW := Lib.hid (rowN_lt hT)
  have HB := Lib.hid hB
  have HT := Lib.hid hT
  have HN := Lib.hid hn
  have HTL := Lib.hid ht
  clear hB hT hn ht
  obtain ⟨i0, hi0, hz0, hz1, hz2⟩ := info_parts part_info
  have HI := Lib.hid hi0
  have HZ0 := Lib.hid hz0
  have HZ1 := Lib.hid hz1
  have HZ2 := Lib.hid hz2
  clear hi0 hz0 hz1 hz2
  have hq : (4 + 9 * (N : Int) - 4).tdiv 9 = (N : Int) := by
    rw [show 4 + 9 * (N : Int) - 4 = 9 * (N : Int) by omega]
    exact Int.mul_tdiv_cancel_left _ (by omega)
  go_enter Tryz.func18, Tryz.ntmps18
  go_wp2
  go_loopw [2, 7, 16] (fun a v i wr => PartRel xs t at0 N w a v i wr) (fun _ _ i _ => N - (intOf i).toNat)
  case atStart => exact ⟨0, [], by omega, rfl, by simp [rowSum], Below.refl _ _, World.ownsRow_nil _ _ _ _, rfl⟩
  case round =>
    obtain ⟨k, rows, hk, rfl, rfl, hb, hown, hrow⟩ := hrel
    obtain ⟨wo, rfl⟩ : ∃ wo : World, wo = wr := ⟨_, rfl⟩
    by_cases hlt : k < N
    · have y0 := HSUM.out k
      have y1 := HROW.out k
      have hTo := HT.out.below hb
      have hBo := HB.out.below hb
      have hct : wo.cell? ⟨bt, ot + 9 * k, none⟩ = some (.int .u8 ((t.getD (9 * k) 0 : Nat) : Int)) := by
        obtain ⟨b', o', e, hcs⟩ := hTo.2 (by rw [HTL.out]; omega)
        injection e with e
        injection e with e1 e2
        subst e1 e2
        exact hcs (9 * k) (by rw [HTL.out]; omega)
      have hk256 := hTo.lt (9 * k)
      have hbr : Byt wo (some ⟨bt, ot + 9 * k + 1, none⟩) ((t.drop (9 * k + 1)).take 4) := by
        have := (hTo.drop (9 * k + 1) (4 + 9 * N) (by rw [HTL.out]; omega) (by rw [HTL.out]; omega)).take 4
        rw [if_neg (by omega)] at this
        simpa [add_at, Nat.add_assoc] using this
      have hbs : Byt wo (some ⟨bt, ot + 9 * k + 5, none⟩) ((t.drop (9 * k + 5)).take 4) := by
        have := (hTo.drop (9 * k + 5) (4 + 9 * N) (by rw [HTL.out]; omega) (by rw [HTL.out]; omega)).take 4
        rw [if_neg (by omega)] at this
        simpa [add_at, Nat.add_assoc] using this
      have HBR := Lib.hid hbr
      have HBS := Lib.hid hbs
      have HRL : Hid (((t.drop (9 * k + 1)).take 4).length = 4) := by
        show _ = _
        simp [HTL.out]; omega
      have HSL : Hid (((t.drop (9 * k + 5)).take 4).length = 4) := by
        show _ = _
        simp [HTL.out]; omega
      have HPO : Hid (partOf xs t at0 k = if 0 ≤ at0 + (rowSum t k : Nat) ∧ at0 + (rowSum t k : Nat) + (rowN t k : Nat) ≤ xs.length ∧ rightB (((xs.drop (at0 + (rowSum t k : Nat)).toNat).take (rowN t k)) ++ ((t.drop (9 * k + 5)).take 4)) = true then
        ⟨t.getD (9 * k) 0, (xs.drop (at0 + (rowSum t k : Nat)).toNat).take (rowN t k), at0 + (rowSum t k : Nat), true⟩ else ⟨t.getD (9 * k) 0, [], at0 + (rowSum t k : Nat), false⟩) := rfl
      have HS : Hid (rowSum t (k + 1) = rowSum t k + rowN t k) := rfl
      have HV : Hid (valOf ((t.drop (9 * k + 1)).take 4) = rowN t k) := rfl
      have HP : Hid (partsL xs t at0 (k + 1) = partsL xs t at0 k ++ [partOf xs t at0 k]) := rfl
      have HOWN := Lib.hid hown
      have HRW := Lib.hid hrow
      have HBL := Lib.hid hb
      have HBO := Lib.hid hBo
      clear hbr hbs hTo hBo hown hrow hb HB HT
      obtain ⟨aa, haa⟩ : ∃ aa : Int, at0 + (rowSum t k : Nat) = aa := ⟨_, rfl⟩
      have hsm : Hid (∀ m : Nat, at0 + ((rowSum t k + m : Nat) : Int) = aa + (m : Int)) := fun m => by rw [← haa]; omega
      have g1 : -1000000000000000 ≤ aa := by omega
      have g2 : aa ≤ 2000000000000000 := by omega
      rw [haa] at HPO ⊢
      clear haa y0
      generalize rowSum t k = sm at *
      generalize rowN t k = m at *
      generalize t.getD (9 * k) 0 = kd at *
      generalize (t.drop (9 * k + 1)).take 4 = row at *
      generalize (t.drop (9 * k + 5)).take 4 = row5 at *
      generalize partsL xs t at0 k = done at *
      generalize partOf xs t at0 k = po at *
      go_wp2_with fail
      refine (told_n _ _ 4 row _ (HBR.out.below ((Below.refl _ _).alloc (Nat.le_refl _) _)) HRL.out (by omega)).mono ?_
      rintro e w1 ⟨rfl, rfl⟩
      rw [HV.out]
      have hbx := (Below.refl wo.heap.size wo).alloc (Nat.le_refl _) (.cells #[.int .u8 (kd : Int), .slice none 0 0, .int .i64 aa, .bool false] 37)
      have hkx := Blk.new (w := wo) (g := wo.heap.size) (t := 37) (cs := #[.int .u8 (kd : Int), .slice none 0 0, .int .i64 aa, .bool false]) rfl
      generalize wo.alloc (.cells #[.int .u8 (kd : Int), .slice none 0 0, .int .i64 aa, .bool false] 37) = wx at *
      have HBX := Lib.hid hbx
      have HKX := Lib.hid hkx
      obtain ⟨x0, x1, x2, x3, x4, x5, x6, x7⟩ := blk4 hkx
      clear hbx hkx hct
      rcases Int.lt_or_le aa 0 with h0 | h0
      · have HPN : Hid (po = ⟨kd, [], aa, false⟩) := by
          show po = _
          rw [HPO.out, if_neg]
          omega
        go_wp2_with (at_builtin; go_must (refine wpList_append_own _ rfl _ _ 33 rfl w.heap.size 37 i0 _ 4 48 Tryz.underlying33 HI.out HZ0.out HZ1.out HZ2.out rfl (by decide) _ k rows rfl (own_below HOWN.out (below_alloc HBX.out _)) _ 1 1 [.int .u8 (kd : Int), .slice none 0 0, .int .i64 aa, .bool false] rfl rfl (newsA (by first | rfl | simp)) (cells4 rfl rfl rfl rfl) (by unfold maxLen; omega) (by omega) (by first | (exact (below_alloc (below_then HBL.out HBX.out) _).size) | (have := (below_then HBL.out HBX.out).size; simp; omega)) ?_); intro v2 w2 own2 hg2 _hv2; have HF := Lib.hid (part_end HBL HOWN HRW HBX.out ⟨by simp, World.ownsRow_nil _ _ _ _⟩ hk256 hlt HP HPN.out HS hsm own2 hg2); clear own2 hg2 _hv2)
        refine ⟨by simpa using HF.out, by simp [intOf]; omega⟩
      · obtain ⟨q, rfl⟩ : ∃ q : Nat, aa = (q : Int) := ⟨aa.toNat, by omega⟩
        rcases Nat.lt_or_ge n (q + m) with h1 | h1
        · have HPN : Hid (po = ⟨kd, [], (q : Int), false⟩) := by
            show po = _
            rw [HPO.out, if_neg]
            rw [HN.out]
            omega
          go_wp2_with (at_builtin; go_must (refine wpList_append_own _ rfl _ _ 33 rfl w.heap.size 37 i0 _ 4 48 Tryz.underlying33 HI.out HZ0.out HZ1.out HZ2.out rfl (by decide) _ k rows rfl (own_below HOWN.out (below_alloc HBX.out _)) _ 1 1 [.int .u8 (kd : Int), .slice none 0 0, .int .i64 (q : Int), .bool false] rfl rfl (newsA (by first | rfl | simp)) (cells4 rfl rfl rfl rfl) (by unfold maxLen; omega) (by omega) (by first | (exact (below_alloc (below_then HBL.out HBX.out) _).size) | (have := (below_then HBL.out HBX.out).size; simp; omega)) ?_); intro v2 w2 own2 hg2 _hv2; have HF := Lib.hid (part_end HBL HOWN HRW HBX.out ⟨by simp, World.ownsRow_nil _ _ _ _⟩ hk256 hlt HP HPN.out HS hsm own2 hg2); clear own2 hg2 _hv2)
          refine ⟨by simpa using HF.out, by simp [intOf]; omega⟩
        · obtain ⟨oq, HBD0, hS1⟩ : ∃ oq, Hid (Byt wo (some ⟨b, oq, none⟩) ((xs.drop q).take m)) ∧
              (∀ W, (Instr.slice 25 (.slice (some ⟨b, off, none⟩) n c) (some (.int .i64 (q : Int))) (some (.int .i64 ((q : Int) + (m : Int)))) none).run Tryz.prog W = .ok (.slice (some ⟨b, oq, none⟩) m (c - q)) W) := by
            have := (HBO.out.drop q c (by rw [HN.out]; omega) (by rw [HN.out]; omega)).take m
            by_cases hcq : c = q
            · rw [if_pos hcq] at this
              exact ⟨off, Lib.hid this, fun W => by rw [sl_lh (by omega) W, if_pos hcq]⟩
            · rw [if_neg hcq] at this
              exact ⟨off + q, Lib.hid (by simpa [add_at] using this), fun W => by rw [sl_lh (by omega) W, if_neg hcq]; simp [add_at]⟩
          have hS2 : ∀ W, (Instr.slice 25 (.slice (some ⟨bt, ot + 9 * k, none⟩) (9 * (k + 1) - 9 * k) (cT - 9 * k)) (some (.int .i64 5)) none none).run Tryz.prog W = .ok (.slice (some ⟨bt, ot + 9 * k + 5, none⟩) 4 (cT - 9 * k - 5)) W := fun W => by
            have := sl_l (a := some ⟨bt, ot + 9 * k, none⟩) (n := 9 * (k + 1) - 9 * k) (c := cT - 9 * k) (q := 5) (by omega) W
            rw [if_neg (by omega)] at this
            rw [show ((5 : Nat) : Int) = 5 from rfl] at this
            rw [this]
            simp [add_at]
            omega
          have HLD : Hid (((xs.drop q).take m).length = m) := by
            show _ = _
            simp [HN.out]; omega
          have HPC : Hid (po = if rightB ((xs.drop q).take m ++ row5) = true then ⟨kd, (xs.drop q).take m, (q : Int), true⟩ else ⟨kd, [], (q : Int), false⟩) := by
            show po = _
            rw [HPO.out]
            have e1 : ((q : Int)).toNat = q := by omega
            simp only [e1]
            by_cases hr : rightB ((xs.drop q).take m ++ row5) = true
            · rw [if_pos ⟨h0, by rw [HN.out]; omega, hr⟩, if_pos hr]
            · rw [if_neg (fun h => hr h.2.2), if_neg hr]
          clear HPO
          generalize (xs.drop q).take m = data at *
          have CC : Hid (∀ W g, g = W.heap.size → Below wx.heap.size wx W →
            Calls Tryz.prog 14 #[.slice (some ⟨g, 0, none⟩) 2 2] (W.alloc (.cells #[.slice (some ⟨b, oq, none⟩) m (c - q), .slice (some ⟨bt, ot + 9 * k + 5, none⟩) 4 (cT - 9 * k - 5)] 25)).drew fun e w' => ∃ P c, e = .returned (.slice P (m + 4) c) ∧ Byt w' P (data ++ row5) ∧ m + 4 ≤ c ∧ Below wx.heap.size wx w') := by
            rintro W g hg hW
            have hW2 := (below_alloc hW (.cells #[.slice (some ⟨b, oq, none⟩) m (c - q), .slice (some ⟨bt, ot + 9 * k + 5, none⟩) 4 (cT - 9 * k - 5)] 25)).drew
            refine (concat2 _ g m _ 4 _ _ _ data row5 (HBD0.out.below (below_then HBX.out hW2)) (HBS.out.below (below_then HBX.out hW2)) HLD.out HSL.out (by omega) (by omega) (Blk.new hg) (by omega)).mono ?_
            rintro e w' ⟨P, c, rfl, h1, h2, h3⟩
            exact ⟨P, c, rfl, h1, h2, below_then hW2 h3⟩
          have CR : Hid (∀ W P c2, Byt W P (data ++ row5) → m + 4 ≤ c2 → Below wx.heap.size wx W → Calls Tryz.prog 36 #[.slice P (m + 4) c2] W fun e w' => e = .returned (.bool (rightB (data ++ row5))) ∧ Below wx.heap.size wx w') := by
            intro W P c2 hW hc2 hb
            refine (right_n P c2 (m + 4) _ W hW (by rw [List.length_append, HLD.out, HSL.out]) hc2 (by omega)).mono ?_
            rintro e w' ⟨rfl, h⟩
            exact ⟨rfl, below_then hb h⟩
          have CL : Hid (∀ W, Below wo.heap.size wo W → Calls Tryz.prog 38 #[.slice (some ⟨b, oq, none⟩) m (c - q)] W fun e w' => ∃ v, e = .returned v ∧ ownD w' W.heap.size v data ∧ Below W.heap.size W w') := by
            rintro W hW
            exact clone_n b oq _ m data W (HBD0.out.below hW) HLD.out (by omega)
          have hxx := Below.refl wx.heap.size wx
          generalize rightB (data ++ row5) = rb at *
          cases rb
          · have HPN : Hid (po = ⟨kd, [], (q : Int), false⟩) := by
              show po = _
              rw [HPC.out]; rfl
            go_wp2_with fail
            go_region_held3 (fun w' => Below wx.heap.size wx w') ((repeat' (first | with_reducible assumption | with_reducible exact Below.refl _ _ | with_reducible refine Below.drew ?_ | with_reducible refine below_alloc ?_ _ | with_reducible refine below_set ?_ ?_ _ | with_reducible refine below_then ?_ (by with_reducible assumption) | with_reducible exact Nat.le_refl _ | with_reducible exact Below.size (by with_reducible assumption))))
              (first
                | (go_at_call 14; (with_reducible refine Calls.mono (CC.out _ _ (by first | rfl | simp) (by (repeat' (first | with_reducible assumption | with_reducible exact Below.refl _ _ | with_reducible refine Below.drew ?_ | with_reducible refine below_alloc ?_ _ | with_reducible refine below_set ?_ ?_ _ | with_reducible refine below_then ?_ (by with_reducible assumption) | with_reducible exact Nat.le_refl _ | with_reducible exact Below.size (by with_reducible assumption))))) ?_); rintro e w6 ⟨P6, c6, rfl, hB6, hc6, hb6⟩)
                | (go_at_call 36; (with_reducible refine Calls.mono (CR.out _ _ _ hB6 hc6 (by (repeat' (first | with_reducible assumption | with_reducible exact Below.refl _ _ | with_reducible refine Below.drew ?_ | with_reducible refine below_alloc ?_ _ | with_reducible refine below_set ?_ ?_ _ | with_reducible refine below_then ?_ (by with_reducible assumption) | with_reducible exact Nat.le_refl _ | with_reducible exact Below.size (by with_reducible assumption))))) ?_); rintro e w7 ⟨rfl, hb7⟩))
            have HKZ := Lib.hid (HKX.out.below hb7)
            have HBZ := Lib.hid (below_then HBX.out hb7)
            obtain ⟨y0, y1, y2, y3, y4, y5, y6, y7⟩ := blk4 HKZ.out
            clear x0 x1 x2 x3 x4 x5 x6 x7 hb7 hB6 hb6 hxx hS2
            go_wp2_with (at_builtin; go_must (refine wpList_append_own _ rfl _ _ 33 rfl w.heap.size 37 i0 _ 4 48 Tryz.underlying33 HI.out HZ0.out HZ1.out HZ2.out rfl (by decide) _ k rows rfl (own_below HOWN.out (below_alloc (HBZ.out) _)) _ 1 1 [.int .u8 (kd : Int), .slice none 0 0, .int .i64 (q : Int), .bool false] rfl rfl (newsA (by first | rfl | simp)) (cells4 rfl rfl rfl rfl) (by unfold maxLen; omega) (by omega) (by first | (exact (below_alloc (below_then HBL.out (HBZ.out)) _).size) | (have := (below_then HBL.out (HBZ.out)).size; simp; omega)) ?_); intro v2 w2 own2 hg2 _hv2; have HF := Lib.hid (part_end HBL HOWN HRW (HBZ.out) (⟨by simp, World.ownsRow_nil _ _ _ _⟩) hk256 hlt HP HPN.out HS hsm own2 hg2); clear own2 hg2 _hv2)
            refine ⟨by simpa using HF.out, by simp [intOf]; omega⟩
          · have HPN : Hid (po = ⟨kd, data, (q : Int), true⟩) := by
              show po = _
              rw [HPC.out]; rfl
            go_wp2_with fail
            go_region_held3 (fun w' => Below wx.heap.size wx w') ((repeat' (first | with_reducible assumption | with_reducible exact Below.refl _ _ | with_reducible refine Below.drew ?_ | with_reducible refine below_alloc ?_ _ | with_reducible refine below_set ?_ ?_ _ | with_reducible refine below_then ?_ (by with_reducible assumption) | with_reducible exact Nat.le_refl _ | with_reducible exact Below.size (by with_reducible assumption))))
              (first
                | (go_at_call 14; (with_reducible refine Calls.mono (CC.out _ _ (by first | rfl | simp) (by (repeat' (first | with_reducible assumption | with_reducible exact Below.refl _ _ | with_reducible refine Below.drew ?_ | with_reducible refine below_alloc ?_ _ | with_reducible refine below_set ?_ ?_ _ | with_reducible refine below_then ?_ (by with_reducible assumption) | with_reducible exact Nat.le_refl _ | with_reducible exact Below.size (by with_reducible assumption))))) ?_); rintro e w6 ⟨P6, c6, rfl, hB6, hc6, hb6⟩)
                | (go_at_call 36; (with_reducible refine Calls.mono (CR.out _ _ _ hB6 hc6 (by (repeat' (first | with_reducible assumption | with_reducible exact Below.refl _ _ | with_reducible refine Below.drew ?_ | with_reducible refine below_alloc ?_ _ | with_reducible refine below_set ?_ ?_ _ | with_reducible refine below_then ?_ (by with_reducible assumption) | with_reducible exact Nat.le_refl _ | with_reducible exact Below.size (by with_reducible assumption))))) ?_); rintro e w7 ⟨rfl, hb7⟩))
            have HKZ := Lib.hid (HKX.out.below hb7)
            have HBZ := Lib.hid (below_then HBX.out hb7)
            obtain ⟨y0, y1, y2, y3, y4, y5, y6, y7⟩ := blk4 HKZ.out
            clear x0 x1 x2 x3 x4 x5 x6 x7 hb7 hB6 hb6 hxx hS2
            go_wp2_with fail
            refine (CL.out _ (below_set HBZ.out (Nat.le_refl _) _)).mono ?_
            rintro e w8 ⟨v8, rfl, hd8, hb8⟩
            obtain ⟨A8, c8, rfl, _⟩ := Byt.of_own hd8.2 hd8.1
            have hk8 := (HKZ.out.set 3 (.bool true)).below hb8
            have HB9 := Lib.hid (below_set (p := ⟨wo.heap.size, 1, none⟩) (below_then (below_set (p := ⟨wo.heap.size, 3, none⟩) HBZ.out (Nat.le_refl _) (.bool true)) hb8) (Nat.le_refl _) (.slice A8 data.length c8))
            have HD9 : Hid (ownD (w8.setCell ⟨wo.heap.size, 1, none⟩ (.slice A8 data.length c8)) w.heap.size (.slice A8 data.length c8) data) :=
              ⟨hd8.1, own_set (own_base hd8.2 (below_then HBL.out (below_set (p := ⟨wo.heap.size, 3, none⟩) HBZ.out (Nat.le_refl _) (.bool true))).size) hk8 (by decide) _⟩
            obtain ⟨z0, z1, z2, z3, z4, z5, z6, z7⟩ := blk4 hk8
            clear hk8 hd8 hb8 y0 y1 y2 y3 y4 y5 y6 y7
            go_wp2_with (at_builtin; go_must (refine wpList_append_own _ rfl _ _ 33 rfl w.heap.size 37 i0 _ 4 48 Tryz.underlying33 HI.out HZ0.out HZ1.out HZ2.out rfl (by decide) _ k rows rfl (own_below HOWN.out (below_alloc (HB9.out) _)) _ 1 1 [.int .u8 (kd : Int), .slice A8 data.length c8, .int .i64 (q : Int), .bool true] rfl rfl (newsA (by first | rfl | simp)) (cells4 rfl rfl rfl rfl) (by unfold maxLen; omega) (by omega) (by first | (exact (below_alloc (below_then HBL.out (HB9.out)) _).size) | (have := (below_then HBL.out (HB9.out)).size; simp; omega)) ?_); intro v2 w2 own2 hg2 _hv2; have HF := Lib.hid (part_end HBL HOWN HRW (HB9.out) (HD9.out) hk256 hlt HP HPN.out HS hsm own2 hg2); clear own2 hg2 _hv2)
            refine ⟨by simpa using HF.out, by simp [intOf]; omega⟩
    · obtain rfl : k = N := by omega
      have HROW2 := Lib.hid (hrow.mono (fun v l h => h.byt))
      have HOWN := Lib.hid hown
      have HB2 := Lib.hid hb
      clear hrow hown hb
      go_wp2
      go_ret
      obtain ⟨A9, c9, rfl, hp9⟩ := prs_of_own (by rw [partsL_len]; exact HOWN.out) HROW2.out
      rw [partsL_len]
      exact ⟨A9, c9, rfl, hp9, HB2.out⟩
end Go.Proofs.YtnbhgeehlcjmdaaGreat
