/- One box of two that have as many parts: walk of damage.Mend. -/
import Derived.Test.YtnbhgeehlcjmdaaGreatD17
namespace Go.Proofs.YtnbhgeehlcjmdaaGreat
open Go.RowKit

def MixR (ps qs : List Prt) (n : Nat) (w : World) (v i : Value) (wr : World) : Prop :=
  ∃ (k : Nat) (cs : List (Nat × List Nat)) (rows : List Value), k ≤ n ∧ i = .int .i64 k ∧ mixTo ps qs k = .ok cs ∧ Below w.heap.size w wr ∧ wr.ownsRow w.heap.size 27 2 v cs.length rows ∧ RowC (bytD w) cs rows
theorem mix_end {ps qs : List Prt} {n j : Nat} {w3 wo wz w2 : World} {v v2 dv : Value} {cs : List (Nat × List Nat)} {rows : List Value} {ch : Nat × List Nat} {o : Obj} (hb : Hid (Below w3.heap.size w3 wo)) (hown : Hid (wo.ownsRow w3.heap.size 27 2 v cs.length rows)) (hrow : Hid (RowC (bytD w3) cs rows)) (hz : Below wo.heap.size wo wz)
    (hmix : Hid (mixTo ps qs (j + 1) = .ok (cs ++ [ch]))) (hch : ch.1 < 256) (hd : bytD w3 dv ch.2) (own2 : w2.ownsRow w3.heap.size 27 2 v2 (cs.length + 1) (rows ++ [.int .u8 ((ch.1 : Nat) : Int), dv])) (hg : (wz.alloc o).grownBy w2 v.ownBlock) (hj : j < n) : MixR ps qs n w3 v2 (.int .i64 ((j + 1 : Nat) : Int)) w2 := by
  refine ⟨j + 1, cs ++ [ch], _, by omega, rfl, hmix.out, app_below (below_alloc (below_then hb.out hz) o) (own_below hown.out (below_alloc hz o)) hg, by simpa using own2, hrow.out.snoc hch hd⟩
theorem cells2 {a b : Value} (ha : a.oneCell' = true) (hb : b.oneCell' = true) : ∀ u ∈ [a, b], u.oneCell' = true := by
  intro u hu
  simp at hu
  rcases hu with rfl | rfl <;> assumption
theorem mendL_both {ps qs : List Prt} {n : Nat} (h1 : ps.length = n) (h2 : qs.length = n) : mendL (some ps) (some qs) = if kindsTo ps qs n = true then mixTo ps qs n else .error 3 := by
  unfold mendL
  subst h1
  simp only [h2, true_and]
set_option maxRecDepth 100000 in
set_option maxHeartbeats 4000000 in
theorem mend_both (A B : Option Addr) (a c m d n : Nat) (xs ys : List Nat) (ps qs : List Prt) (w : World) (hA : Byt w A xs) (hn : xs.length = a) (hc : a ≤ c) (hB : Byt w B ys) (hm : ys.length = m) (hd : m ≤ d) (hau : a ≤ 1000) (hmu : m ≤ 1000) (h1 : openL xs = some ps) (h2 : openL ys = some qs)
    (hp : ps.length = n) (hq : qs.length = n) : Calls Tryz.prog 7 #[.slice A a c, .slice B m d] w (MendPost (if kindsTo ps qs n = true then mixTo ps qs n else .error 3) w) := by
  have H1 := Lib.hid (open_n A c a xs w hA hn hc (by omega))
  have H2 := Lib.hid (fun W (hW : Below w.heap.size w W) => open_n B d m ys W (hB.below hW) hm hd (by omega))
  have hs1 := openL_small h1 (by omega)
  have hs2 := openL_small h2 (by omega)
  rw [h1] at H1
  rw [h2] at H2
  have hnu : n ≤ 1000 := by rw [← hp]; exact hs1.1
  have HS1 := Lib.hid hs1.2
  have HS2 := Lib.hid hs2.2
  have HNP := Lib.hid hp
  have HNQ := Lib.hid hq
  have hne : ((ps.length : Int) != (qs.length : Int)) = false := by simp; omega
  have hne2 : ((n : Int) != (n : Int)) = false := by simp
  obtain ⟨i0, hi0, hz0, hz1, hz2⟩ := info_parts chunk_info
  have HI := Lib.hid hi0
  have HZ0 := Lib.hid hz0
  have HZ1 := Lib.hid hz1
  have HZ2 := Lib.hid hz2
  clear hA hB hn hm h2 h1 hs1 hs2 hp hq hi0 hz0 hz1 hz2 hne
  generalize hR : (if kindsTo ps qs n = true then mixTo ps qs n else Except.error 3) = R at *
  have HR := Lib.hid hR
  clear hR
  go_enter Tryz.func7, Tryz.ntmps7
  go_wp2_with fail
  refine (H1.out).mono ?_
  rintro e w1 ⟨hb1, A1, c1, rfl, hP1⟩
  have HB1 := Lib.hid hb1
  have HP1 := Lib.hid hP1
  clear hb1 hP1
  rw [HNP.out]
  go_wp2_with fail
  refine (H2.out _ HB1.out).mono ?_
  rintro e w2 ⟨hb2, A2, c2, rfl, hP2⟩
  have HB2 := Lib.hid (below_then HB1.out hb2)
  have HPS := Lib.hid (HP1.out.below hb2)
  have HQS := Lib.hid hP2
  clear hb2 hP2 HP1 H1 H2
  rw [HNQ.out]
  go_wp2
  go_loopw [40] (fun i wr => ∃ k r : Nat, k ≤ n ∧ i = .int .i64 k ∧ kindsTo ps qs k = true ∧ wr = w2.drewN r) (fun i _ => n - (intOf i).toNat)
  case atStart => exact ⟨0, 0, by omega, rfl, rfl, rfl⟩
  case round =>
    obtain ⟨k, r, hk, rfl, hkd, rfl⟩ := hrel
    have HKD := Lib.hid hkd
    clear hkd
    by_cases hlt : k < n
    · obtain ⟨b, off, rfl, hcs⟩ := HPS.out (by rw [HNP.out]; omega)
      obtain ⟨b', off', rfl, hcs'⟩ := HQS.out (by rw [HNQ.out]; omega)
      have c0 := (hcs k (by rw [HNP.out]; omega)).1
      have d0 := (hcs' k (by rw [HNQ.out]; omega)).1
      have HS : Hid (kindsTo ps qs (k + 1) = (kindsTo ps qs k && decide ((ps.getD k default).kind = (qs.getD k default).kind))) := rfl
      clear hcs hcs'
      generalize (ps.getD k default).kind = x at *
      generalize (qs.getD k default).kind = y at *
      have i1 : (0 : Int) ≤ (k : Int) := by omega
      have i2 : (k : Int) < (n : Int) := by omega
      cases hxy : ((x : Int) != (y : Int))
      · go_wp2_with fail
        go_quiet (fail)
        go_wp2
        refine ⟨⟨k + 1, _, by omega, by go_num, ?_, rfl⟩, by simp [intOf]; omega⟩
        have hxy2 : (x : Int) = (y : Int) := by simpa using hxy
        rw [HS.out, HKD.out]
        simp
        omega
      · have hf : Hid (kindsTo ps qs n = false) := by
          refine kindsTo_false (k := k + 1) ?_ n (by omega)
          have hxy2 : ¬ (x : Int) = (y : Int) := by simpa using hxy
          rw [HS.out, HKD.out]
          simp
          omega
        go_wp2_with fail
        go_quiet (fail)
        go_wp2
        go_ret2
        rw [← HR.out, if_neg (by rw [hf.out]; decide)]
        exact ⟨by first | exact below_drewN (below_drewN HB2.out _) _ | exact below_drewN HB2.out _, rfl⟩
    · obtain rfl : k = n := by omega
      have HRR : Hid (R = mixTo ps qs k) := by
        show _ = _
        rw [← HR.out, if_pos HKD.out]
      clear HR
      have HB3 := Lib.hid (below_drewN HB2.out r)
      have HP3 := Lib.hid (HPS.out.below (below_drewN (Below.refl _ _) r))
      have HQ3 := Lib.hid (HQS.out.below (below_drewN (Below.refl _ _) r))
      clear HPS HQS HB2
      generalize w2.drewN r = w3 at *
      go_wp2
      go_loopw [11, 59] (fun v i wr => MixR ps qs k w3 v i wr) (fun _ i _ => k - (intOf i).toNat)
      case atStart => exact ⟨0, [], [], by omega, rfl, rfl, Below.refl _ _, World.ownsRow_nil _ _ _ _, rfl⟩
      case round =>
        obtain ⟨j, cs, rows, hj, rfl, hmx, hb, hown, hrow⟩ := hrel
        obtain ⟨wo, rfl⟩ : ∃ wo : World, wo = wr := ⟨_, rfl⟩
        have hcl := mixTo_len hmx
        have HBW := Lib.hid hb
        have HOWN := Lib.hid hown
        have HROW := Lib.hid hrow
        by_cases hlt2 : j < k
        · obtain ⟨b, off, rfl, hcs⟩ := HP3.out (by rw [HNP.out]; omega)
          obtain ⟨b', off', rfl, hcs'⟩ := HQ3.out (by rw [HNQ.out]; omega)
          obtain ⟨f0, hx256, ⟨P, cP, f1, hX, hXc⟩, f2, f3⟩ := hcs j (by rw [HNP.out]; omega)
          obtain ⟨g0, hy256, ⟨Q, cQ, g1, hY, hYc⟩, g2, g3⟩ := hcs' j (by rw [HNQ.out]; omega)
          have mv : ∀ {p : Addr} {u : Value}, w3.cell? p = some u → wo.cell? p = some u := fun h => (hb.cell (World.block_lt_of_cell? _ _ h)).trans h
          have c0 := mv f0
          have c1 := mv f1
          have c2 := mv f2
          have c3 := mv f3
          have ma : ∀ {p : Addr} {u : Value}, w3.cell? p = some u → ∀ o : Obj, (wo.alloc o).cell? p = some u := fun h o => ((below_alloc hb o).cell (World.block_lt_of_cell? _ _ h)).trans h
          have d0 := ma g0
          have d1 := ma g1
          have d2 := ma g2
          have d3 := ma g3
          have hX1000 := HS1.out j (by rw [HNP.out]; omega)
          have hY1000 := HS2.out j (by rw [HNQ.out]; omega)
          have HNX : Hid (∀ c, mixAt (ps.getD j default) (qs.getD j default) = .ok c → mixTo ps qs (j + 1) = .ok (cs ++ [c])) := fun c h => mixTo_next hmx h
          have HNE : Hid (∀ e, mixAt (ps.getD j default) (qs.getD j default) = .error e → R = .error e) := fun e h => by
            rw [HRR.out]
            exact mixTo_error (mixTo_stop hmx h) k (by omega)
          clear hcs hcs' f0 f1 f2 f3 g0 g1 g2 g3 mv ma hb hown hrow hmx
          generalize ps.getD j default = p at *
          generalize qs.getD j default = q at *
          obtain ⟨x, X, s, wh⟩ := p
          obtain ⟨y, Y, t, wk⟩ := q
          dsimp only at *
          have HDX : Hid (bytD w3 (.slice P X.length cP) X) := ⟨P, cP, rfl, hX, hXc⟩
          have HDY : Hid (bytD w3 (.slice Q Y.length cQ) Y) := ⟨Q, cQ, rfl, hY, hYc⟩
          have HEX := Lib.hid (hX.below HBW.out)
          have HEY := Lib.hid (hY.below HBW.out)
          have hsz : ∀ W : World, Below wo.heap.size wo W → w3.heap.size ≤ W.heap.size := fun W h => Nat.le_trans HBW.out.size h.size
          clear hX hY
          cases wh
          · cases wk
            · have HE := Lib.hid (HNE.out 16 (by simp [mixAt]))
              clear HNX HNE
              go_wp2
              go_ret2
              rw [HE.out]
              exact ⟨below_then HB3.out (below_then HBW.out (by (repeat' (first | with_reducible assumption | with_reducible exact Below.refl _ _ | with_reducible refine Below.drew ?_ | with_reducible refine below_alloc ?_ _ | with_reducible refine below_set ?_ ?_ _ | with_reducible refine below_then ?_ (by with_reducible assumption) | with_reducible exact Nat.le_refl _ | with_reducible exact Below.size (by with_reducible assumption))))), rfl⟩
            · have HMX := Lib.hid (HNX.out (y, Y) (by simp [mixAt]))
              clear HNX HNE
              go_wp2_with (at_builtin; go_must (refine wpList_append_own _ rfl _ _ 22 rfl w3.heap.size 27 i0 _ 2 32 Tryz.underlying22 HI.out HZ0.out HZ1.out HZ2.out rfl (by decide) _ cs.length rows rfl (own_below HOWN.out (by (repeat' (first | with_reducible assumption | with_reducible exact Below.refl _ _ | with_reducible refine Below.drew ?_ | with_reducible refine below_alloc ?_ _ | with_reducible refine below_set ?_ ?_ _ | with_reducible refine below_then ?_ (by with_reducible assumption) | with_reducible exact Nat.le_refl _ | with_reducible exact Below.size (by with_reducible assumption))))) _ 1 1 [.int .u8 (y : Int), .slice Q Y.length cQ] rfl rfl (newsA (by first | rfl | simp)) (cells2 rfl rfl) (by unfold maxLen; omega) (by omega) (hsz _ (by (repeat' (first | with_reducible assumption | with_reducible exact Below.refl _ _ | with_reducible refine Below.drew ?_ | with_reducible refine below_alloc ?_ _ | with_reducible refine below_set ?_ ?_ _ | with_reducible refine below_then ?_ (by with_reducible assumption) | with_reducible exact Nat.le_refl _ | with_reducible exact Below.size (by with_reducible assumption))))) ?_); intro v6 w6 own6 hg6 _hv6; have HF := Lib.hid (mix_end HBW HOWN HROW (by (repeat' (first | with_reducible assumption | with_reducible exact Below.refl _ _ | with_reducible refine Below.drew ?_ | with_reducible refine below_alloc ?_ _ | with_reducible refine below_set ?_ ?_ _ | with_reducible refine below_then ?_ (by with_reducible assumption) | with_reducible exact Nat.le_refl _ | with_reducible exact Below.size (by with_reducible assumption)))) HMX hy256 (HDY).out own6 hg6 hlt2); clear own6 hg6 _hv6)
              refine ⟨by simpa using HF.out, by simp [intOf]; omega⟩
          · cases wk
            · have HMX := Lib.hid (HNX.out (x, X) (by simp [mixAt]))
              clear HNX HNE
              go_wp2_with (at_builtin; go_must (refine wpList_append_own _ rfl _ _ 22 rfl w3.heap.size 27 i0 _ 2 32 Tryz.underlying22 HI.out HZ0.out HZ1.out HZ2.out rfl (by decide) _ cs.length rows rfl (own_below HOWN.out (by (repeat' (first | with_reducible assumption | with_reducible exact Below.refl _ _ | with_reducible refine Below.drew ?_ | with_reducible refine below_alloc ?_ _ | with_reducible refine below_set ?_ ?_ _ | with_reducible refine below_then ?_ (by with_reducible assumption) | with_reducible exact Nat.le_refl _ | with_reducible exact Below.size (by with_reducible assumption))))) _ 1 1 [.int .u8 (x : Int), .slice P X.length cP] rfl rfl (newsA (by first | rfl | simp)) (cells2 rfl rfl) (by unfold maxLen; omega) (by omega) (hsz _ (by (repeat' (first | with_reducible assumption | with_reducible exact Below.refl _ _ | with_reducible refine Below.drew ?_ | with_reducible refine below_alloc ?_ _ | with_reducible refine below_set ?_ ?_ _ | with_reducible refine below_then ?_ (by with_reducible assumption) | with_reducible exact Nat.le_refl _ | with_reducible exact Below.size (by with_reducible assumption))))) ?_); intro v6 w6 own6 hg6 _hv6; have HF := Lib.hid (mix_end HBW HOWN HROW (by (repeat' (first | with_reducible assumption | with_reducible exact Below.refl _ _ | with_reducible refine Below.drew ?_ | with_reducible refine below_alloc ?_ _ | with_reducible refine below_set ?_ ?_ _ | with_reducible refine below_then ?_ (by with_reducible assumption) | with_reducible exact Nat.le_refl _ | with_reducible exact Below.size (by with_reducible assumption)))) HMX hx256 (HDX).out own6 hg6 hlt2); clear own6 hg6 _hv6)
              refine ⟨by simpa using HF.out, by simp [intOf]; omega⟩
            · generalize hsb : sameB X Y = sb at *
              have HSB := Lib.hid hsb
              clear hsb
              go_wp2_with fail
              refine (equal_n P Q cP cQ X.length Y.length X Y _ (HEX.out.below (by (repeat' (first | with_reducible assumption | with_reducible exact Below.refl _ _ | with_reducible refine Below.drew ?_ | with_reducible refine below_alloc ?_ _ | with_reducible refine below_set ?_ ?_ _ | with_reducible refine below_then ?_ (by with_reducible assumption) | with_reducible exact Nat.le_refl _ | with_reducible exact Below.size (by with_reducible assumption))))) (HEY.out.below (by (repeat' (first | with_reducible assumption | with_reducible exact Below.refl _ _ | with_reducible refine Below.drew ?_ | with_reducible refine below_alloc ?_ _ | with_reducible refine below_set ?_ ?_ _ | with_reducible refine below_then ?_ (by with_reducible assumption) | with_reducible exact Nat.le_refl _ | with_reducible exact Below.size (by with_reducible assumption))))) rfl rfl (by omega)).mono ?_
              rw [HSB.out]
              rintro e w5 ⟨rfl, nd, rfl⟩
              have hbz : Below wo.heap.size wo (((wo.alloc (.cells #[.int .u8 (x : Int), .slice P X.length cP, .int .i64 s, .bool true] 37)).alloc (.cells #[.int .u8 (y : Int), .slice Q Y.length cQ, .int .i64 t, .bool true] 37)).drewN nd) := below_drewN (by (repeat' (first | with_reducible assumption | with_reducible exact Below.refl _ _ | with_reducible refine Below.drew ?_ | with_reducible refine below_alloc ?_ _ | with_reducible refine below_set ?_ ?_ _ | with_reducible refine below_then ?_ (by with_reducible assumption) | with_reducible exact Nat.le_refl _ | with_reducible exact Below.size (by with_reducible assumption)))) nd
              have hkz : Blk (((wo.alloc (.cells #[.int .u8 (x : Int), .slice P X.length cP, .int .i64 s, .bool true] 37)).alloc (.cells #[.int .u8 (y : Int), .slice Q Y.length cQ, .int .i64 t, .bool true] 37)).drewN nd) wo.heap.size 37 #[.int .u8 (x : Int), .slice P X.length cP, .int .i64 s, .bool true] := (Blk.new rfl).alloc _
              obtain ⟨z0, z1, z2, z3, _⟩ := blk4 hkz
              generalize ((wo.alloc (.cells #[.int .u8 (x : Int), .slice P X.length cP, .int .i64 s, .bool true] 37)).alloc (.cells #[.int .u8 (y : Int), .slice Q Y.length cQ, .int .i64 t, .bool true] 37)).drewN nd = wz at *
              clear c0 c1 c2 c3 d0 d1 d2 d3 hkz
              cases sb
              · have HE := Lib.hid (HNE.out 15 (by simp [mixAt, HSB.out]))
                clear HNX HNE
                go_wp2
                go_ret2
                rw [HE.out]
                exact ⟨below_then HB3.out (below_then HBW.out hbz), rfl⟩
              · have HMX := Lib.hid (HNX.out (x, X) (by simp [mixAt, HSB.out]))
                clear HNX HNE
                go_wp2_with (at_builtin; go_must (refine wpList_append_own _ rfl _ _ 22 rfl w3.heap.size 27 i0 _ 2 32 Tryz.underlying22 HI.out HZ0.out HZ1.out HZ2.out rfl (by decide) _ cs.length rows rfl (own_below HOWN.out (by (repeat' (first | with_reducible assumption | with_reducible exact Below.refl _ _ | with_reducible refine Below.drew ?_ | with_reducible refine below_alloc ?_ _ | with_reducible refine below_set ?_ ?_ _ | with_reducible refine below_then ?_ (by with_reducible assumption) | with_reducible exact Nat.le_refl _ | with_reducible exact Below.size (by with_reducible assumption))))) _ 1 1 [.int .u8 (x : Int), .slice P X.length cP] rfl rfl (newsA (by first | rfl | simp)) (cells2 rfl rfl) (by unfold maxLen; omega) (by omega) (hsz _ (by (repeat' (first | with_reducible assumption | with_reducible exact Below.refl _ _ | with_reducible refine Below.drew ?_ | with_reducible refine below_alloc ?_ _ | with_reducible refine below_set ?_ ?_ _ | with_reducible refine below_then ?_ (by with_reducible assumption) | with_reducible exact Nat.le_refl _ | with_reducible exact Below.size (by with_reducible assumption))))) ?_); intro v6 w6 own6 hg6 _hv6; have HF := Lib.hid (mix_end HBW HOWN HROW (by (repeat' (first | with_reducible assumption | with_reducible exact Below.refl _ _ | with_reducible refine Below.drew ?_ | with_reducible refine below_alloc ?_ _ | with_reducible refine below_set ?_ ?_ _ | with_reducible refine below_then ?_ (by with_reducible assumption) | with_reducible exact Nat.le_refl _ | with_reducible exact Below.size (by with_reducible assumption)))) HMX hx256 (HDX).out own6 hg6 hlt2); clear own6 hg6 _hv6)
                refine ⟨by simpa using HF.out, by simp [intOf]; omega⟩
        · obtain rfl : j = k := by omega
          obtain ⟨A9, c9, rfl, hck⟩ := cks_of_own hown (hrow.mono (fun v l h => by
            obtain ⟨P, c, rfl, h1, h2⟩ := h
            exact ⟨P, c, rfl, h1.below hb, h2⟩))
          have HCK := Lib.hid hck
          have HRE : Hid (R = .ok cs) := by
            show _ = _
            rw [HRR.out, hmx]
          have HML := Lib.hid (mix_mild hmx (by omega) (fun i hi => ⟨(HP3.out.chunk i (by rw [HNP.out]; omega)).1, HS1.out i (by rw [HNP.out]; omega), (HP3.out.chunk i (by rw [HNP.out]; omega)).2⟩) (fun i hi => ⟨(HQ3.out.chunk i (by rw [HNQ.out]; omega)).1, HS2.out i (by rw [HNQ.out]; omega), (HQ3.out.chunk i (by rw [HNQ.out]; omega)).2⟩))
          clear hck hrow hown hb hmx HROW HOWN
          have HCL := Lib.hid hcl
          rw [hcl]
          clear hcl
          go_wp2_with fail
          refine (pack_n A9 c9 j cs wo HCK.out HCL.out HML.out).mono ?_
          rintro e w9 ⟨v9, rfl, hd9, hb9⟩
          have HB9 := Lib.hid (below_then (below_then HB3.out HBW.out) hb9)
          have HD9 : Hid (ownD w9 w.heap.size v9 (packL cs)) := ⟨hd9.1, own_base hd9.2 (below_then HB3.out HBW.out).size⟩
          clear hb9 hd9
          go_wp2
          go_ret2
          rw [HRE.out]
          exact ⟨HB9.out, _, rfl, HD9.out⟩
theorem mend_n (A B : Option Addr) (a c m d : Nat) (xs ys : List Nat) (w : World) (hA : Byt w A xs) (hn : xs.length = a) (hc : a ≤ c) (hB : Byt w B ys) (hm : ys.length = m) (hd : m ≤ d) (hau : a ≤ 1000) (hmu : m ≤ 1000) :
    Calls Tryz.prog 7 #[.slice A a c, .slice B m d] w (MendPost (mendL (openL xs) (openL ys)) w) := by
  cases h1 : openL xs with
  | none =>
    rw [mendL_none1]
    exact mend_none1 A B a c m d xs ys w hA hn hc hB hm hd hau hmu h1
  | some ps =>
    cases h2 : openL ys with
    | none =>
      rw [mendL_none2]
      exact mend_none2 A B a c m d xs ys ps w hA hn hc hB hm hd hau hmu h1 h2
    | some qs =>
      by_cases hl : ps.length = qs.length
      · rw [mendL_both rfl hl.symm]
        exact mend_both A B a c m d _ xs ys ps qs w hA hn hc hB hm hd hau hmu h1 h2 rfl hl.symm
      · rw [mendL_len hl]
        exact mend_len A B a c m d xs ys ps qs w hA hn hc hB hm hd hau hmu h1 h2 hl
end Go.Proofs.YtnbhgeehlcjmdaaGreat
