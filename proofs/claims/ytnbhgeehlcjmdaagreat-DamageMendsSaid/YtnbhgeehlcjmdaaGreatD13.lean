/- What is found of a box: walk of box.Open. -/
import Derived.Test.YtnbhgeehlcjmdaaGreatD12
import Derived.Laws.OwnMore
namespace Go.Proofs.YtnbhgeehlcjmdaaGreat
open Go.RowKit

def nRows (t : List Nat) : Nat := (t.length - 4) / 9
def openL (xs : List Nat) : Option (List Prt) :=
  match firstL xs with
  | some (t, a) => some (partsL xs t a (nRows t))
  | none => match secondL xs with
    | some (t, a) => some (partsL xs t a (nRows t))
    | none => none
def OpenPost (o : Option (List Prt)) (w : World) (e : Ending) (w' : World) : Prop :=
  Below w.heap.size w w' ∧ match o with
  | none => e = .returned (.tuple #[.slice none 0 0, .int .i64 3])
  | some ps => ∃ A c, e = .returned (.tuple #[.slice A ps.length c, .int .i64 0]) ∧ Prs w' A ps
/-- what a head's answer is like -/
structure HeadOk (xs t : List Nat) (a : Int) : Prop where
  len : ∃ N, N < 65536 ∧ t.length = 4 + 9 * N
  lo : -1000000000000000 ≤ a
  hi : a ≤ 1000000000000000
  long : 14 ≤ xs.length
theorem nRows_of {t : List Nat} {N : Nat} (h : t.length = 4 + 9 * N) : nRows t = N := by
  unfold nRows
  rw [h]
  omega
theorem first_ok {w : World} {A : Option Addr} {xs t : List Nat} {a : Int} (hB : Byt w A xs) (hu : xs.length ≤ 60000) (h : firstL xs = some (t, a)) : HeadOk xs t a := by
  have hN := headN_lt (hB.take 10)
  unfold firstL at h
  split at h
  · rename_i hc
    obtain ⟨_, h2, _⟩ := hc
    injection h with h
    injection h with h3 h4
    subst h3 h4
    exact ⟨⟨_, hN, by simp; omega⟩, by omega, by omega, by omega⟩
  · cases h
theorem second_ok {w : World} {A : Option Addr} {xs t : List Nat} {a : Int} (hc : ∀ k, Byt w (A.map (·.add k)) (xs.drop k)) (hu : xs.length ≤ 60000) (h : secondL xs = some (t, a)) : HeadOk xs t a := by
  have hN := headN_lt (hc (xs.length - 10))
  unfold secondL at h
  split at h
  · rename_i hcd
    obtain ⟨_, h2, _⟩ := hcd
    injection h with h
    injection h with h3 h4
    subst h3 h4
    refine ⟨⟨_, hN, by simp; omega⟩, ?_, by omega, by omega⟩
    have := rowSum_le ((hc (xs.length - 14 - 9 * headN (xs.drop (xs.length - 10)))).take (4 + 9 * headN (xs.drop (xs.length - 10)))) (headN (xs.drop (xs.length - 10)))
    omega
  · cases h
theorem Byt.drops {w : World} {A : Option Addr} {xs : List Nat} (h : Byt w A xs) (k : Nat) : Byt w (A.map (·.add k)) (xs.drop k) := by
  by_cases hk : k ≤ xs.length
  · have := h.drop k (max xs.length (k + 1)) hk (by omega)
    rwa [if_neg (by omega)] at this
  · rw [List.drop_eq_nil_of_le (by omega)]
    exact Byt.nil _ _
theorem openL_first {xs t : List Nat} {a : Int} (h : firstL xs = some (t, a)) : openL xs = some (partsL xs t a (nRows t)) := by unfold openL; rw [h]
theorem openL_second {xs t : List Nat} {a : Int} (h0 : firstL xs = none) (h : secondL xs = some (t, a)) : openL xs = some (partsL xs t a (nRows t)) := by unfold openL; rw [h0, h]
theorem openL_none {xs : List Nat} (h0 : firstL xs = none) (h : secondL xs = none) : openL xs = none := by unfold openL; rw [h0, h]
theorem parts_post (A : Option Addr) (c n : Nat) (xs t : List Nat) (P : Option Addr) (cT : Nat) (a : Int) (w w0 : World) (hB : Byt w A xs) (hn : xs.length = n) (hc : n ≤ c) (hu : n ≤ 50000) (hT : Byt w P t) (hcT : t.length ≤ cT) (hk : HeadOk xs t a) (hb : Below w0.heap.size w0 w) :
    Calls Tryz.prog 18 #[.slice A n c, .slice P t.length cT, .int .i64 a] w fun e w' => ∃ A' c', e = .returned (.slice A' (partsL xs t a (nRows t)).length c') ∧ Prs w' A' (partsL xs t a (nRows t)) ∧ Below w0.heap.size w0 w' := by
  obtain ⟨N, hN, hl⟩ := hk.len
  obtain ⟨b, off, rfl, _⟩ := hB.2 (by have := hk.long; omega)
  rw [nRows_of hl, partsL_len, hl]
  refine (parts_n b off P c n cT N a xs t w hB hn hc hu hT hl (by omega) hN hk.lo hk.hi).mono ?_
  rintro e w' ⟨A', c', rfl, h1, h2⟩
  exact ⟨A', c', rfl, h1, below_then hb h2⟩
set_option maxRecDepth 100000 in
set_option maxHeartbeats 2000000 in
theorem open_n (A : Option Addr) (c n : Nat) (xs : List Nat) (w : World) (hB : Byt w A xs) (hn : xs.length = n) (hc : n ≤ c) (hu : n ≤ 50000) :
    Calls Tryz.prog 8 #[.slice A n c] w (OpenPost (openL xs) w) := by
  have HB := Lib.hid hB
  have HN := Lib.hid hn
  have hdec : decide ((4194304 : Int) < (n : Int)) = false := by rw [decide_eq_false_iff_not]; omega
  have H1 := Lib.hid (fun W (hW : Below w.heap.size w W) => first_n A c n xs W (hB.below hW) hn hc (by omega))
  have H2 := Lib.hid (fun W (hW : Below w.heap.size w W) => second_n A c n xs W (hB.below hW) hn hc (by omega))
  have HP := Lib.hid (fun W P cT t a (hW : Below w.heap.size w W) (hT : Byt W P t) (hcT : t.length ≤ cT) (hk : HeadOk xs t a) => parts_post A c n xs t P cT a W w (hB.below hW) hn hc hu hT hcT hk hW)
  clear hB hn
  cases hf : firstL xs with
  | some ta =>
    obtain ⟨t, a⟩ := ta
    rw [openL_first hf]
    have hk := first_ok HB.out (by rw [HN.out]; omega) hf
    rw [hf] at H1
    have HK := Lib.hid hk
    clear hf hk
    go_enter Tryz.func8, Tryz.ntmps8
    go_wp2
    refine wp_loop_rounds 3 ?_
    rw [rounds_succ]
    go_wp2_with fail
    refine (H1.out _ (below_alloc (Below.refl _ _) _)).mono ?_
    rintro e w1 ⟨hb1, P, cT, rfl, hT, hcT⟩
    have HB1 := Lib.hid (below_then (below_alloc (Below.refl w.heap.size w) _) hb1)
    have HT := Lib.hid hT
    clear hb1 hT H1 H2
    go_wp2_with fail
    refine (HP.out w1 P cT t a HB1.out HT.out hcT HK.out).mono ?_
    rintro e w2 ⟨A', c', rfl, h1, h2⟩
    go_wp2
    go_ret2
    exact ⟨h2, A', c', rfl, h1⟩
  | none =>
    rw [hf] at H1
    cases hs : secondL xs with
    | some ta =>
      obtain ⟨t, a⟩ := ta
      rw [openL_second hf hs]
      have hk := second_ok (HB.out.drops) (by rw [HN.out]; omega) hs
      rw [hs] at H2
      have HK := Lib.hid hk
      clear hf hk hs
      go_enter Tryz.func8, Tryz.ntmps8
      go_wp2
      have hbk := Blk.new (w := w) (g := w.heap.size) (t := 57) (cs := #[.func (.func 16) #[] #[], .func (.func 17) #[] #[]]) rfl
      refine wp_loop_rounds 3 ?_
      rw [rounds_succ]
      go_wp2_with fail
      refine (H1.out _ (below_alloc (Below.refl _ _) _)).mono ?_
      rintro e w1 ⟨hb1, rfl⟩
      have HB1 := Lib.hid (below_then (below_alloc (Below.refl w.heap.size w) _) hb1)
      have q1 := (hbk.below hb1).cell 1
      clear hb1 hbk H1
      go_wp2
      rw [rounds_succ]
      go_wp2_with fail
      refine (H2.out _ HB1.out).mono ?_
      rintro e w2 ⟨hb2, P, cT, rfl, hT, hcT⟩
      have HB2 := Lib.hid (below_then HB1.out hb2)
      have HT := Lib.hid hT
      clear hb2 hT
      go_wp2_with fail
      refine (HP.out w2 P cT t a HB2.out HT.out hcT HK.out).mono ?_
      rintro e w3 ⟨A', c', rfl, h1, h2⟩
      go_wp2
      go_ret2
      exact ⟨h2, A', c', rfl, h1⟩
    | none =>
      rw [openL_none hf hs]
      rw [hs] at H2
      clear hf hs
      go_enter Tryz.func8, Tryz.ntmps8
      go_wp2
      have hbk := Blk.new (w := w) (g := w.heap.size) (t := 57) (cs := #[.func (.func 16) #[] #[], .func (.func 17) #[] #[]]) rfl
      refine wp_loop_rounds 3 ?_
      rw [rounds_succ]
      go_wp2_with fail
      refine (H1.out _ (below_alloc (Below.refl _ _) _)).mono ?_
      rintro e w1 ⟨hb1, rfl⟩
      have HB1 := Lib.hid (below_then (below_alloc (Below.refl w.heap.size w) _) hb1)
      have q1 := (hbk.below hb1).cell 1
      clear hb1 hbk H1
      go_wp2
      rw [rounds_succ]
      go_wp2_with fail
      refine (H2.out _ HB1.out).mono ?_
      rintro e w2 ⟨hb2, rfl⟩
      have HB2 := Lib.hid (below_then HB1.out hb2)
      clear hb2
      go_wp2
      rw [rounds_succ]
      go_wp2
      go_ret2
      exact ⟨HB2.out, rfl⟩
end Go.Proofs.YtnbhgeehlcjmdaaGreat
/-! Bits of bytes that are changed: walk of the law's spoil. -/
namespace Go.Proofs.YtnbhgeehlcjmdaaGreat
open Go.RowKit

def spoilAt (n at' i : Nat) : Nat := at' % (8 * n) + i
def spoilStep (n at' mask i : Nat) (ys : List Nat) : List Nat :=
  if mask / 2 ^ i % 2 = 1 ∧ spoilAt n at' i < 8 * n then ys.set (spoilAt n at' i / 8) (ys.getD (spoilAt n at' i / 8) 0 ^^^ 2 ^ (spoilAt n at' i % 8)) else ys
def spoilTo (n at' mask : Nat) (xs : List Nat) : Nat → List Nat
  | 0 => xs
  | i + 1 => spoilStep n at' mask i (spoilTo n at' mask xs i)
theorem spoilStep_len (n at' mask i : Nat) (ys : List Nat) : (spoilStep n at' mask i ys).length = ys.length := by
  unfold spoilStep
  split <;> simp
theorem spoilTo_len (n at' mask : Nat) (xs : List Nat) : ∀ i, (spoilTo n at' mask xs i).length = xs.length
  | 0 => rfl
  | i + 1 => by rw [spoilTo, spoilStep_len, spoilTo_len]
theorem xor_byte {y k : Nat} (hy : y < 256) (hk : k < 8) : y ^^^ 2 ^ k < 256 :=
  Nat.xor_lt_two_pow (n := 8) (by omega) (Nat.pow_lt_pow_right (by decide) hk)
theorem getD_lt {ys : List Nat} (h : ∀ x ∈ ys, x < 256) (i : Nat) : ys.getD i 0 < 256 := by
  by_cases hi : i < ys.length
  · rw [getD_at _ _ _ hi]
    exact h _ (List.getElem_mem hi)
  · have : ys.getD i 0 = 0 := by simp [List.getD, List.getElem?_eq_none (show ys.length ≤ i by omega)]
    omega
theorem spoilStep_lt {n at' mask i : Nat} {ys : List Nat} (h : ∀ x ∈ ys, x < 256) : ∀ x ∈ spoilStep n at' mask i ys, x < 256 := by
  unfold spoilStep
  split
  · intro x hx
    rcases List.mem_or_eq_of_mem_set hx with hx | rfl
    · exact h x hx
    · exact xor_byte (getD_lt h _) (Nat.mod_lt _ (by decide))
  · exact h
theorem spoilTo_lt {n at' mask : Nat} {xs : List Nat} (h : ∀ x ∈ xs, x < 256) : ∀ i, ∀ x ∈ spoilTo n at' mask xs i, x < 256
  | 0 => h
  | i + 1 => spoilStep_lt (spoilTo_lt h i)
set_option maxRecDepth 100000 in
set_option maxHeartbeats 4000000 in
theorem spoil_n (A : Option Addr) (c n at' mask : Nat) (xs : List Nat) (w : World) (hB : Byt w A xs) (hn : xs.length = n) (hu : n ≤ 50000) (ha : at' < 4294967296) :
    Calls Tryz.prog 6 #[.slice A n c, .int .u32 (at' : Int), .int .u32 (mask : Int)] w fun e w' => ∃ v, e = .returned v ∧ ownD w' w.heap.size v (spoilTo n at' mask xs 32) ∧ Below w.heap.size w w' := by
  have HB := Lib.hid hB
  have HN := Lib.hid hn
  clear hB
  go_enter Tryz.func6, Tryz.ntmps6
  go_wp2_with (at_builtin; refine wpList_append_byt rfl (.tmp 10) (.tmp 11) rfl w.heap.size _ 0 [] rfl (own_empty (Nat.le_refl _)) A c xs (by rw [HN.out]; rfl) (HB.out.below (below_alloc (Below.refl _ _) _)) (by omega) (by simp) ?_; intro v1 w1 own1 hg1 _hv1; have HB1 := Lib.hid (app_below (w0 := w) (below_alloc (Below.refl _ _) _) (own_empty (Nat.le_refl _)) hg1); have HO1 := Lib.hid own1; clear own1 hg1 _hv1)
  have hx : (∀ x ∈ xs, x < 256) := HB.out.1
  have HX := Lib.hid hx
  clear hx HB
  rw [Nat.zero_add, List.nil_append] at HO1
  rw [hn] at HO1
  rcases Nat.eq_zero_or_pos n with h0 | h0
  · have hn0 : xs = [] := List.eq_nil_of_length_eq_zero (by rw [hn, h0])
    have hs0 : Hid (∀ i, spoilTo 0 at' mask [] i = []) := fun i => List.eq_nil_of_length_eq_zero (by rw [spoilTo_len]; rfl)
    subst h0 hn0
    go_loopw [8] (fun i wr => i = .int .i64 0 ∧ wr = w1) (fun _ _ => 0)
    case atStart => exact ⟨rfl, rfl⟩
    case round =>
      obtain ⟨rfl, rfl⟩ := hrel
      go_wp2
      go_ret
      exact ⟨_, rfl, ⟨by rw [hs0.out]; simp, by rw [hs0.out]; exact HO1.out⟩, HB1.out⟩
  · obtain ⟨g, cap, rfl, hgl⟩ : ∃ g cap, v1 = .slice (some ⟨g, 0, none⟩) n cap ∧ w.heap.size ≤ g := by
      rcases HO1.out.2 with ⟨_, h⟩ | ⟨g, cap, cur, h, hg, _⟩
      · omega
      · exact ⟨g, cap, h, hg⟩
    go_loopw [8] (fun i wr => ∃ k : Nat, i = .int .i64 k ∧ k ≤ 32 ∧ Below w.heap.size w wr ∧ wr.ownsRow w.heap.size 5 1 (.slice (some ⟨g, 0, none⟩) n cap) n (bys (spoilTo n at' mask xs k))) (fun i _ => 32 - (intOf i).toNat)
    case atStart => exact ⟨0, rfl, by omega, HB1.out, HO1.out⟩
    case round =>
      obtain ⟨k, rfl, hk, hb, hown⟩ := hrel
      obtain ⟨wo, rfl⟩ : ∃ wo : World, wo = wr := ⟨_, rfl⟩
      have HBW := Lib.hid hb
      have HOW := Lib.hid hown
      clear hb hown
      by_cases hlt : k < 32
      · have m1 : (0 : Int) ≤ (at' : Int) % (8 * (n : Int)) := Int.emod_nonneg _ (by omega)
        have m2 : (at' : Int) % (8 * (n : Int)) < 8 * (n : Int) := Int.emod_lt_of_pos _ (by omega)
        have e0 : (at' : Int) % (8 * (n : Int)) + (k : Int) = ((spoilAt n at' k : Nat) : Int) := by
          unfold spoilAt
          simp
        have e1 : ((mask : Int) / 2 ^ k).tmod 2 = ((mask / 2 ^ k % 2 : Nat) : Int) := by
          rw [show (mask : Int) / 2 ^ k = ((mask / 2 ^ k : Nat) : Int) by simp, Int.tmod_eq_emod_of_nonneg (Int.natCast_nonneg _)]
          simp
        have hstep : spoilTo n at' mask xs (k + 1) = if mask / 2 ^ k % 2 = 1 ∧ spoilAt n at' k < 8 * n then (spoilTo n at' mask xs k).set (spoilAt n at' k / 8) ((spoilTo n at' mask xs k).getD (spoilAt n at' k / 8) 0 ^^^ 2 ^ (spoilAt n at' k % 8)) else spoilTo n at' mask xs k := rfl
        generalize mask / 2 ^ k % 2 = mb at *
        generalize spoilAt n at' k = q at *
        have hlen := spoilTo_len n at' mask xs k
        have hlt2 := spoilTo_lt (n := n) (at' := at') (mask := mask) HX.out k
        generalize spoilTo n at' mask xs k = ys at *
        generalize hzs : spoilTo n at' mask xs (k + 1) = zs at *
        have HZS := Lib.hid hzs
        clear hzs
        by_cases hc : mb = 1 ∧ q < 8 * n
        · go_wp2_with fail
          all_goals try omega
          obtain ⟨hmb, hlt8⟩ := hc
          have hq8 : q / 8 < n := by omega
          have c0 : wo.cell? ⟨g, q / 8, none⟩ = some (.int .u8 ((ys.getD (q / 8) 0 : Nat) : Int)) := by
            rw [HOW.out.cellAt (q / 8) (by omega)]
            simp [bys, List.getD, show q / 8 < ys.length by omega]
          have f0 := HOW.out.frozenAt (q / 8)
          have hst := Lib.hid (HOW.out.stored (q / 8) (.int .u8 (((ys.getD (q / 8) 0 ^^^ 2 ^ (q % 8) : Nat)) : Int)))
          have hy := getD_lt hlt2 (q / 8)
          generalize ys.getD (q / 8) 0 = y at *
          have e2 : Hid (bits BinOp.xor IntKind.u8 (y : Int) (2 ^ (q % 8) % 256) = (((y ^^^ 2 ^ (q % 8) : Nat)) : Int)) := by
            show _ = _
            have h2 : 2 ^ (q % 8) < 2 ^ 8 := Nat.pow_lt_pow_right (by decide) (by omega)
            have h3 : ((2 : Int) ^ (q % 8) % 256) = ((2 ^ (q % 8) : Nat) : Int) := by
              have : 2 ^ (q % 8) % 256 = 2 ^ (q % 8) := Nat.mod_eq_of_lt (by omega)
              rw [← this]
              simp
            rw [h3]
            exact u8_xor_nat _ _ (by omega) (by omega)
          have hz : Hid (zs = ys.set (q / 8) (y ^^^ 2 ^ (q % 8))) := by
            show _ = _
            rw [hstep, if_pos ⟨hmb, hlt8⟩]
          clear hstep
          go_region
          go_wp2
          rw [e2.out]
          refine ⟨⟨k + 1, by go_num, by omega, (grown_trans' HBW.out hst.out.2 hgl).drew, ?_⟩, by simp [intOf]; omega⟩
          rw [HZS.out, hz.out]
          have hbs : bys (ys.set (q / 8) (y ^^^ 2 ^ (q % 8))) = (bys ys).set (q / 8) (.int .u8 ((y ^^^ 2 ^ (q % 8) : Nat) : Int)) := by simp [bys, List.map_set]
          rw [hbs]
          exact hst.out.1.drew
        · have hS : zs = ys := by
            rw [hstep, if_neg hc]
          have HS := Lib.hid hS
          have HC := Lib.hid hc
          clear hS hc hstep
          go_wp2_with fail
          all_goals first
            | (refine ⟨⟨k + 1, by go_num, by omega, HBW.out, ?_⟩, by simp [intOf]; omega⟩; rw [HZS.out, HS.out]; exact HOW.out)
            | (exfalso; have := HC.out; omega)
      · obtain rfl : k = 32 := by omega
        go_wp2
        go_ret
        exact ⟨_, rfl, ⟨spoilTo_lt HX.out 32, by rw [spoilTo_len, hn]; exact HOW.out⟩, HBW.out⟩
end Go.Proofs.YtnbhgeehlcjmdaaGreat
