/- The law DamageMends over all that it calls: first part of the walk. -/
import Derived.Test.YtnbhgeehlcjmdaaGreatD19
import Derived.Test.YtnbhgeehlcjmdaaGreatV34
namespace Go.Proofs.YtnbhgeehlcjmdaaGreat
open Go.RowKit

theorem awake_below (w : World) : Calls Tryz.prog 4 #[] w fun e w' => e = .returned (.bool true) ∧ Below w.heap.size w w' :=
  (callsIn_wide.1 (Go.Ev.F.awake_runs w)).mono fun _ _ ⟨h1, h2, h3, h4, h5, h6⟩ => ⟨h1, h4, h5, h6, h2, h3⟩
/-- chunks that the law looks at -/
def Few (cs : List (Nat × List Nat)) : Prop := cs.length ≤ 6 ∧ ∀ i, i < cs.length → (cs.getD i default).2.length ≤ 40
theorem Cks.mild {w : World} {A : Option Addr} {cs : List (Nat × List Nat)} (h : Cks w A cs) (hf : Few cs) : Mild cs := by
  refine ⟨by have := hf.1; omega, fun i hi => ?_⟩
  obtain ⟨b, off, _, hc⟩ := h (by omega)
  obtain ⟨_, h2, P, c, _, h4, _⟩ := hc i hi
  have := hf.2 i hi
  exact ⟨h2, by omega, h4.1⟩
theorem few_data {cs : List (Nat × List Nat)} (h : Few cs) : ∀ k, k ≤ cs.length → (dataTo cs k).length ≤ 40 * k
  | 0, _ => by simp [dataTo]
  | k + 1, hk => by
    have := few_data h k (by omega)
    have := h.2 k (by omega)
    rw [dataTo, List.length_append]
    omega
theorem few_pack {cs : List (Nat × List Nat)} (h : Few cs) : (packL cs).length ≤ 1000 := by
  have := few_data h _ (Nat.le_refl _)
  have := h.1
  rw [packL_len]
  omega
theorem strB_inj {xs ys : List Nat} (hx : ∀ x ∈ xs, x < 256) (hy : ∀ x ∈ ys, x < 256) (h : strB xs = strB ys) : xs = ys := by
  unfold strB at h
  injection h with h
  have h2 : xs.map UInt8.ofNat = ys.map UInt8.ofNat := by simpa using congrArg Array.toList h
  have key : ∀ l : List Nat, (∀ x ∈ l, x < 256) → (l.map UInt8.ofNat).map UInt8.toNat = l := by
    intro l hl
    rw [List.map_map]
    conv => rhs; rw [← List.map_id l]
    refine List.map_congr_left fun x hxm => ?_
    have := hl x hxm
    simp [Nat.mod_eq_of_lt this]
  rw [← key xs hx, ← key ys hy, h2]
/-- what stands behind the law's tests -/
def LawAt (w : World) (A B : Option Addr) (l m : List (Nat × List Nat)) : Prop := Few l ∧ Few m ∧ Cks w A l ∧ Cks w B m
/-- what Mend came to, as the law's tests read it -/
def ZFact (R : Except Nat (List (Nat × List Nat))) (w : World) (z : Option Addr) (zn : Nat) (e0 : Int) : Prop :=
  (∀ k : Nat, R = .error k → zn = 0 ∧ e0 = (k : Int)) ∧ ∀ cs, R = .ok cs → e0 = 0 ∧ Byt w z (packL cs) ∧ (packL cs).length = zn
theorem zfact {R : Except Nat (List (Nat × List Nat))} {w w' : World} {e : Ending} (h : MendPost R w e w') : ∃ z zn zc e0, e = .returned (.tuple #[.slice z (zn : Nat) zc, .int .i64 e0]) ∧ ZFact R w' z zn e0 := by
  obtain ⟨_, h⟩ := h
  cases R with
  | error k => exact ⟨none, 0, 0, _, h, And.intro (fun k' hk => (by injection hk with hk; subst hk; exact ⟨rfl, rfl⟩)) (fun cs hc => (by cases hc))⟩
  | ok cs =>
    obtain ⟨v, rfl, hd⟩ := h
    obtain ⟨A, c, rfl, hB, _⟩ := Byt.of_own hd.2 hd.1
    exact ⟨A, _, c, 0, rfl, And.intro (fun k' hk => (by cases hk)) (fun cs' hc => (by injection hc with hc; subst hc; exact ⟨rfl, hB, rfl⟩))⟩
def OkTo (l m : List (Nat × List Nat)) (n n' k : Nat) : Prop := ∀ j, j < k → (j < n → (l.getD j default).2.length ≤ 40) ∧ (j < n' → (m.getD j default).2.length ≤ 40)
theorem OkTo.succ {l m : List (Nat × List Nat)} {n n' k : Nat} (h : OkTo l m n n' k) (h1 : k < n → (l.getD k default).2.length ≤ 40) (h2 : k < n' → (m.getD k default).2.length ≤ 40) : OkTo l m n n' (k + 1) := by
  intro j hj
  by_cases e : j = k
  · subst e; exact ⟨h1, h2⟩
  · exact h j (by omega)
set_option maxRecDepth 100000 in
set_option maxHeartbeats 4000000 in
theorem law_any (A B : Option Addr) (c d a1 a2 a3 a4 : Nat) (l m : List (Nat × List Nat)) (w : World) (hA : Cks w A l) (hB : Cks w B m) (hl : l.length ≤ maxLen) (hm : m.length ≤ maxLen)
    (hlen1 : ∀ i, i < l.length → (l.getD i default).2.length ≤ maxLen) (hlen2 : ∀ i, i < m.length → (m.getD i default).2.length ≤ maxLen)
    (h1 : a1 < 4294967296) (h3 : a3 < 4294967296) :
    Calls Tryz.prog 3 #[.slice A l.length c, .slice B m.length d, .int .u32 (a1 : Int), .int .u32 (a2 : Int), .int .u32 (a3 : Int), .int .u32 (a4 : Int)] w fun e w' => e = .returned (.bool true) ∧ Below w.heap.size w w' := by
  unfold maxLen at *
  have HA := Lib.hid hA
  have HB := Lib.hid hB
  have HW := Lib.hid (awake_below w)
  clear hA hB
  obtain ⟨n, hn⟩ : ∃ n, n = l.length := ⟨_, rfl⟩
  obtain ⟨n', hn'⟩ : ∃ n', n' = m.length := ⟨_, rfl⟩
  have HN := Lib.hid hn
  have HN' := Lib.hid hn'
  rw [← hn] at hl hlen1 ⊢
  rw [← hn'] at hm hlen2 ⊢
  have HL1 := Lib.hid hlen1
  have HL2 := Lib.hid hlen2
  clear hn hn' hlen1 hlen2
  go_enter Tryz.func3, Tryz.ntmps3
  go_wp2_with fail
  refine (HW.out).mono ?_
  rintro e w1 ⟨rfl, hb1⟩
  have HB1 := Lib.hid hb1
  have HA1 := Lib.hid (HA.out.below hb1)
  have HC1 := Lib.hid (HB.out.below hb1)
  clear hb1 HA HB HW
  by_cases hsmall : n ≤ 6 ∧ n' ≤ 6
  · obtain ⟨hs1, hs2⟩ := hsmall
    go_wp2_with fail
    go_loopw [13] (fun i wr => ∃ k : Nat, k ≤ 6 ∧ i = .int .i64 k ∧ wr = w1 ∧ OkTo l m n n' k) (fun i _ => 6 - (intOf i).toNat)
    case atStart => exact ⟨0, by omega, rfl, rfl, fun j hj => by omega⟩
    case round =>
      obtain ⟨k, hk, rfl, rfl, hok⟩ := hrel
      have HO := Lib.hid hok
      clear hok
      by_cases hlt : k < 6
      · by_cases q1 : k < n
        · obtain ⟨b, off, rfl, hcs⟩ := HA1.out (by rw [← HN.out]; omega)
          obtain ⟨_, _, P, cP, c1, _, _⟩ := hcs k (by rw [← HN.out]; omega)
          have hx := HL1.out k q1
          clear hcs
          generalize hX : (l.getD k default).2.length = X at c1 hx
          have HXE := Lib.hid hX
          clear hX
          by_cases q2 : k < n'
          · obtain ⟨b', off', rfl, hcs'⟩ := HC1.out (by rw [← HN'.out]; omega)
            obtain ⟨_, _, Q, cQ, d1, _, _⟩ := hcs' k (by rw [← HN'.out]; omega)
            have hy := HL2.out k q2
            clear hcs'
            generalize hY : (m.getD k default).2.length = Y at d1 hy
            have HYE := Lib.hid hY
            clear hY
            go_wp2_with fail
            all_goals first
              | (go_ret; exact ⟨rfl, HB1.out⟩)
              | (refine ⟨⟨k + 1, by omega, by go_num, (by trivial), HO.out.succ (fun _ => by rw [HXE.out]; omega) (fun _ => by rw [HYE.out]; omega)⟩, by simp [intOf]; omega⟩)
          · go_wp2_with fail
            all_goals first
              | (go_ret; exact ⟨rfl, HB1.out⟩)
              | (refine ⟨⟨k + 1, by omega, by go_num, (by trivial), HO.out.succ (fun _ => by rw [HXE.out]; omega) (fun _ => by omega)⟩, by simp [intOf]; omega⟩)
        · by_cases q2 : k < n'
          · obtain ⟨b', off', rfl, hcs'⟩ := HC1.out (by rw [← HN'.out]; omega)
            obtain ⟨_, _, Q, cQ, d1, _, _⟩ := hcs' k (by rw [← HN'.out]; omega)
            have hy := HL2.out k q2
            clear hcs'
            generalize hY : (m.getD k default).2.length = Y at d1 hy
            have HYE := Lib.hid hY
            clear hY
            go_wp2_with fail
            all_goals first
              | (go_ret; exact ⟨rfl, HB1.out⟩)
              | (refine ⟨⟨k + 1, by omega, by go_num, (by trivial), HO.out.succ (fun _ => by omega) (fun _ => by rw [HYE.out]; omega)⟩, by simp [intOf]; omega⟩)
          · go_wp2_with fail
            all_goals first
              | (go_ret; exact ⟨rfl, HB1.out⟩)
              | (refine ⟨⟨k + 1, by omega, by go_num, (by trivial), HO.out.succ (fun _ => by omega) (fun _ => by omega)⟩, by simp [intOf]; omega⟩)
      · obtain rfl : k = 6 := by omega
        have hf1 : Few l := ⟨by rw [← HN.out]; exact hs1, fun i hi => (HO.out i (by rw [← HN.out] at hi; omega)).1 (by rw [HN.out]; exact hi)⟩
        have hf2 : Few m := ⟨by rw [← HN'.out]; exact hs2, fun i hi => (HO.out i (by rw [← HN'.out] at hi; omega)).2 (by rw [HN'.out]; exact hi)⟩
        have HM1 := Lib.hid (HA1.out.mild hf1)
        have HM2 := Lib.hid (HC1.out.mild hf2)
        have HF1 := Lib.hid (few_pack hf1)
        have HF2 := Lib.hid (few_pack hf2)
        clear hf1 hf2 HO hl hm HL1 HL2 hk hlt
        go_wp2_with fail
        refine (pack_n A c n l wr HA1.out HN.out.symm HM1.out).mono ?_
        rintro e w2 ⟨v2, rfl, hd2, hb2⟩
        have hlt2 := packL_lt HM1.out
        have hle2 := HF1.out
        generalize packL l = pl at *
        obtain ⟨A2, c2, rfl, hB2, hc2, _⟩ := Byt.of_own hd2.2 hd2.1
        obtain ⟨p, hp⟩ : ∃ p, pl.length = p := ⟨_, rfl⟩
        have HP := Lib.hid hp
        have HB2 := Lib.hid (below_then HB1.out hb2)
        have HD2 := Lib.hid hB2
        have HC2 := Lib.hid (HC1.out.below hb2)
        rw [hp] at hle2 hc2 ⊢
        clear hd2 hb2 hlt2 hp hB2
        go_wp2_with fail
        refine (pack_n B d n' m w2 HC2.out HN'.out.symm HM2.out).mono ?_
        rintro e w3 ⟨v3, rfl, hd3, hb3⟩
        have hle3 := HF2.out
        generalize packL m = pm at *
        obtain ⟨A3, c3, rfl, hB3, hc3, _⟩ := Byt.of_own hd3.2 hd3.1
        obtain ⟨p', hp'⟩ : ∃ p', pm.length = p' := ⟨_, rfl⟩
        have HP' := Lib.hid hp'
        have HB3 := Lib.hid (below_then HB2.out hb3)
        have HD3 := Lib.hid (HD2.out.below hb3)
        have HE3 := Lib.hid hB3
        rw [hp'] at hle3 hc3 ⊢
        clear hd3 hb3 hp' hB3 HD2 HC2 HB2 HA1 HC1 HB1
        go_wp2_with fail
        refine (spoil_n A2 c2 p a1 a2 pl w3 HD3.out HP.out (by omega) h1).mono ?_
        rintro e w4 ⟨v4, rfl, hd4, hb4⟩
        have hl4 : (spoilTo p a1 a2 pl 32).length = p := by rw [spoilTo_len, HP.out]
        generalize spoilTo p a1 a2 pl 32 = xs at *
        obtain ⟨A4, c4, rfl, hB4, hc4, _⟩ := Byt.of_own hd4.2 hd4.1
        have HB4 := Lib.hid (below_then HB3.out hb4)
        have HE4 := Lib.hid (HE3.out.below hb4)
        have HX4 := Lib.hid hB4
        have HXL := Lib.hid hl4
        rw [hl4] at hc4 ⊢
        clear hd4 hb4 hB4 hl4 HD3 HE3 HB3
        go_wp2_with fail
        refine (spoil_n A3 c3 p' a3 a4 pm w4 HE4.out HP'.out (by omega) h3).mono ?_
        rintro e w5 ⟨v5, rfl, hd5, hb5⟩
        have hl5 : (spoilTo p' a3 a4 pm 32).length = p' := by rw [spoilTo_len, HP'.out]
        generalize spoilTo p' a3 a4 pm 32 = ys at *
        obtain ⟨A5, c5, rfl, hB5, hc5, _⟩ := Byt.of_own hd5.2 hd5.1
        have HB5 := Lib.hid (below_then HB4.out hb5)
        have HX5 := Lib.hid (HX4.out.below hb5)
        have HY5 := Lib.hid hB5
        have HYL := Lib.hid hl5
        rw [hl5] at hc5 ⊢
        clear hd5 hb5 hB5 hl5 HX4 HE4 HB4
        go_wp2_with fail
        refine (mend_n A4 A5 p c4 p' c5 xs ys w5 HX5.out HXL.out hc4 HY5.out HYL.out hc5 (by omega) (by omega)).mono ?_
        intro e w6 hm6
        have hb6 := hm6.1
        have HB6 := Lib.hid (below_then HB5.out hb6)
        have HX6 := Lib.hid (HX5.out.below hb6)
        have HY6 := Lib.hid (HY5.out.below hb6)
        clear HX5 HY5 HB5 hb6
        have HO1 := Lib.hid (fun W (hW : Below w6.heap.size w6 W) => open_n A4 c4 p xs W (HX6.out.below hW) HXL.out hc4 (by omega))
        have HO2 := Lib.hid (fun W (hW : Below w6.heap.size w6 W) => open_n A5 c5 p' ys W (HY6.out.below hW) HYL.out hc5 (by omega))
        have HS1 : Hid (∀ ps, openL xs = some ps → ps.length ≤ 1000 ∧ ∀ i, i < ps.length → (ps.getD i default).data.length ≤ 1000) := fun ps h => openL_small h (by rw [HXL.out]; omega)
        have HS2 : Hid (∀ ps, openL ys = some ps → ps.length ≤ 1000 ∧ ∀ i, i < ps.length → (ps.getD i default).data.length ≤ 1000) := fun ps h => openL_small h (by rw [HYL.out]; omega)
        generalize openL xs = ox at *
        generalize openL ys = oy at *
        clear HXL HYL HX6 HY6 HP HP' HF1 HF2 HM1 HM2 HN HN'
        cases ox with
        | none =>
          rw [mendL_none1] at hm6
          obtain ⟨_, rfl⟩ := hm6
          go_wp2_with fail
          refine (HO1.out w6 (Below.refl _ _)).mono ?_
          rintro e w7 ⟨hb7, rfl⟩
          have HB7 := Lib.hid hb7
          clear hb7
          go_wp2_with fail
          refine (HO2.out w7 HB7.out).mono ?_
          intro e w8 hp8
          obtain ⟨A8, m8, c8, f8, rfl, hb8⟩ := open_any hp8
          have HB8 := Lib.hid (below_then HB6.out (below_then HB7.out hb8))
          clear hp8 hb8 HO1 HO2 HS1 HS2
          go_wp2_with fail
          go_loopw [26, 27] (fun no i wr => no = .bool true ∧ i = .int .i64 0 ∧ wr = w8) (fun _ _ _ => 0)
          case atStart => exact ⟨rfl, rfl, rfl⟩
          case round =>
            obtain ⟨rfl, rfl, rfl⟩ := hrel
            go_wp2_with fail
            all_goals (go_ret; exact ⟨rfl, HB8.out⟩)
        | some ps =>
          cases oy with
          | none =>
            rw [mendL_none2] at hm6
            obtain ⟨_, rfl⟩ := hm6
            go_wp2_with fail
            refine (HO1.out w6 (Below.refl _ _)).mono ?_
            rintro e w7 ⟨hb7, A7, c7, rfl, _⟩
            have HB7 := Lib.hid hb7
            have hps := (HS1.out ps rfl).1
            clear hb7
            go_wp2_with fail
            refine (HO2.out w7 HB7.out).mono ?_
            rintro e w8 ⟨hb8, rfl⟩
            have HB8 := Lib.hid (below_then HB6.out (below_then HB7.out hb8))
            clear hb8 HO1 HO2 HS1 HS2
            go_wp2_with fail
            go_loopw [26, 27] (fun no i wr => no = .bool true ∧ i = .int .i64 0 ∧ wr = w8) (fun _ _ _ => 0)
            case atStart => exact ⟨rfl, rfl, rfl⟩
            case round =>
              obtain ⟨rfl, rfl, rfl⟩ := hrel
              go_wp2_with fail
              all_goals (go_ret; exact ⟨rfl, HB8.out⟩)
          | some qs =>
            by_cases hlen : ps.length = qs.length
            · rw [mendL_both rfl hlen.symm] at hm6
              generalize hRD : (if kindsTo ps qs ps.length = true then mixTo ps qs ps.length else Except.error 3) = R at hm6
              have HR := Lib.hid hRD.symm
              obtain ⟨z, zn, zc, e0, rfl, hz⟩ := zfact hm6
              have HZ := Lib.hid hz
              clear hz hm6 hRD
              go_wp2_with fail
              refine (HO1.out w6 (Below.refl _ _)).mono ?_
              rintro e w7 ⟨hb7, A7, c7, rfl, hp7⟩
              have HB7 := Lib.hid hb7
              have HP7 := Lib.hid hp7
              have hps := (HS1.out ps rfl).1
              have HD1 := Lib.hid ((HS1.out ps rfl).2)
              have HD2 := Lib.hid ((HS2.out qs rfl).2)
              clear hb7 hp7
              go_wp2_with fail
              refine (HO2.out w7 HB7.out).mono ?_
              rintro e w8 ⟨hb8, A8, c8, rfl, hp8⟩
              have HB68 := Lib.hid (below_then HB7.out hb8)
              have HB8 := Lib.hid (below_then HB6.out HB68.out)
              have HP8 := Lib.hid (HP7.out.below hb8)
              have HQ8 := Lib.hid hp8
              clear hb8 hp8 HP7 HB7 HO1 HO2 HS1 HS2
              obtain ⟨s, hs⟩ : ∃ s, ps.length = s := ⟨_, rfl⟩
              have HNP := Lib.hid hs
              have HNQ : Hid (qs.length = s) := by
                show _ = _
                rw [← hlen, hs]
              try rw [HNQ.out]
              rw [hs] at hps HR
              try rw [hs]
              have hne : ((s : Int) != (s : Int)) = false := by simp
              clear hs hlen
              go_wp2_with fail
              go_loopw [26, 27] (fun no i wr => ∃ k r : Nat, no = .bool (!kindsTo ps qs k) ∧ i = .int .i64 k ∧ k ≤ s ∧ wr = w8.drewN r) (fun _ i _ => s - (intOf i).toNat)
              case atStart => exact ⟨0, 0, rfl, rfl, by omega, rfl⟩
              case round =>
                clear hne
                obtain ⟨k, r, rfl, rfl, hk, rfl⟩ := hrel
                have HS : Hid (kindsTo ps qs (k + 1) = (kindsTo ps qs k && decide ((ps.getD k default).kind = (qs.getD k default).kind))) := rfl
                by_cases hlt : k < s
                · obtain ⟨b, off, rfl, hcs⟩ := HP8.out (by rw [HNP.out]; omega)
                  obtain ⟨b', off', rfl, hcs'⟩ := HQ8.out (by rw [HNQ.out]; omega)
                  have c0 := (hcs k (by rw [HNP.out]; omega)).1
                  have d0 := (hcs' k (by rw [HNQ.out]; omega)).1
                  clear hcs hcs'
                  generalize (ps.getD k default).kind = x at *
                  generalize (qs.getD k default).kind = y at *
                  have i1 : (0 : Int) ≤ (k : Int) := by omega
                  have i2 : (k : Int) < (s : Int) := by omega
                  cases hkk : kindsTo ps qs k
                  · rw [hkk] at HS
                    simp only [Bool.not_false]
                    go_wp2_with fail
                    go_quiet (fail)
                    go_wp2
                    refine ⟨⟨k + 1, _, ?_, by go_num, by omega, rfl⟩, by simp [intOf]; omega⟩
                    rw [HS.out]
                    rfl
                  · rw [hkk] at HS
                    simp only [Bool.not_true]
                    cases hxy : ((x : Int) != (y : Int))
                    · go_wp2_with fail
                      go_quiet (fail)
                      go_wp2
                      refine ⟨⟨k + 1, _, ?_, by go_num, by omega, rfl⟩, by simp [intOf]; omega⟩
                      have hxy2 : (x : Int) = (y : Int) := by simpa using hxy
                      rw [HS.out, show x = y by omega]
                      simp
                    · go_wp2_with fail
                      go_quiet (fail)
                      go_wp2
                      refine ⟨⟨k + 1, _, ?_, by go_num, by omega, rfl⟩, by simp [intOf]; omega⟩
                      have hxy2 : ¬ (x : Int) = (y : Int) := by simpa using hxy
                      rw [HS.out, decide_eq_false (show ¬ x = y by omega)]
                      rfl
                · obtain rfl : k = s := by omega
                  cases hkk : kindsTo ps qs k
                  · have hR3 : R = .error 3 := by rw [HR.out, hkk]; rfl
                    obtain ⟨rfl, rfl⟩ := HZ.out.1 3 hR3
                    simp only [Bool.not_false]
                    go_wp2_with fail
                    go_ret
                    exact ⟨rfl, below_drewN HB8.out _⟩
                  · have hRm : R = mixTo ps qs k := by rw [HR.out, hkk]; rfl
                    have HRR := Lib.hid hRm
                    simp only [Bool.not_true]
                    have HB9 := Lib.hid (below_drewN HB8.out r)
                    have HP9 := Lib.hid (HP8.out.below (below_drewN (Below.refl _ _) r))
                    have HQ9 := Lib.hid (HQ8.out.below (below_drewN (Below.refl _ _) r))
                    have HB69 := Lib.hid (below_drewN HB68.out r)
                    clear HB8 HP8 HQ8 HB68 HR hRm hkk HS
                    generalize w8.drewN r = w9 at *
                    obtain ⟨i0, hi0, hz0, hz1, hz2⟩ := info_parts chunk_info
                    have HI := Lib.hid hi0
                    have HZ0 := Lib.hid hz0
                    have HZ1 := Lib.hid hz1
                    have HZ2 := Lib.hid hz2
                    clear hi0 hz0 hz1 hz2
                    go_wp2_with fail
                    go_loopw [28, 29] (fun v i wr => MixR ps qs k w9 v i wr) (fun _ i _ => k - (intOf i).toNat)
                    case atStart => exact ⟨0, [], [], by omega, rfl, rfl, Below.refl _ _, World.ownsRow_nil _ _ _ _, rfl⟩
                    case round =>
                      obtain ⟨j, cs, rows, hj, rfl, hmx, hb, hown, hrow⟩ := hrel
                      obtain ⟨wo, rfl⟩ : ∃ wo : World, wo = wr := ⟨_, rfl⟩
                      have hcl := mixTo_len hmx
                      have HBW := Lib.hid hb
                      have HOWN := Lib.hid hown
                      have HROW := Lib.hid hrow
                      by_cases hlt2 : j < k
                      · obtain ⟨b, off, rfl, hcs⟩ := HP9.out (by rw [HNP.out]; omega)
                        obtain ⟨b', off', rfl, hcs'⟩ := HQ9.out (by rw [HNQ.out]; omega)
                        obtain ⟨f0, hx256, ⟨P, cP, f1, hX, hXc⟩, _, f3⟩ := hcs j (by rw [HNP.out]; omega)
                        obtain ⟨g0, hy256, ⟨Q, cQ, g1, hY, hYc⟩, _, g3⟩ := hcs' j (by rw [HNQ.out]; omega)
                        have mv : ∀ {p : Addr} {u : Value}, w9.cell? p = some u → wo.cell? p = some u := fun h => (hb.cell (World.block_lt_of_cell? _ _ h)).trans h
                        have c0 := mv f0
                        have c1 := mv f1
                        have c3 := mv f3
                        have d0 := mv g0
                        have d1 := mv g1
                        have d3 := mv g3
                        have hX1000 := HD1.out j (by rw [HNP.out]; omega)
                        have hY1000 := HD2.out j (by rw [HNQ.out]; omega)
                        have HNX : Hid (∀ c, mixAt (ps.getD j default) (qs.getD j default) = .ok c → mixTo ps qs (j + 1) = .ok (cs ++ [c])) := fun c h => mixTo_next hmx h
                        have HNE : Hid (∀ e, mixAt (ps.getD j default) (qs.getD j default) = .error e → R = .error e) := fun e h => by
                          rw [HRR.out]
                          exact mixTo_error (mixTo_stop hmx h) k (by omega)
                        clear hcs hcs' f0 f1 f3 g0 g1 g3 mv hb hown hrow hmx
                        generalize ps.getD j default = p at *
                        generalize qs.getD j default = q at *
                        obtain ⟨x, X, s', wh⟩ := p
                        obtain ⟨y, Y, t', wk⟩ := q
                        dsimp only at *
                        have HDX : Hid (bytD w9 (.slice P X.length cP) X) := ⟨P, cP, rfl, hX, hXc⟩
                        have HDY : Hid (bytD w9 (.slice Q Y.length cQ) Y) := ⟨Q, cQ, rfl, hY, hYc⟩
                        have hEX := hX.below HBW.out
                        have hEY := hY.below HBW.out
                        have hsz : ∀ W : World, Below wo.heap.size wo W → w9.heap.size ≤ W.heap.size := fun W h => Nat.le_trans HBW.out.size h.size
                        have i1 : (0 : Int) ≤ (j : Int) := by omega
                        have i2 : (j : Int) < (k : Int) := by omega
                        clear hX hY
                        cases wh
                        · cases wk
                          · obtain ⟨rfl, rfl⟩ := HZ.out.1 16 (HNE.out 16 (by simp [mixAt]))
                            clear HNX HNE hEX hEY
                            go_wp2_with fail
                            go_quiet (fail)
                            go_wp2
                            go_ret
                            exact ⟨rfl, below_then HB9.out (below_then HBW.out (by (repeat' (first | with_reducible refine below_drewN ?_ _ | with_reducible assumption | with_reducible exact Below.refl _ _ | with_reducible refine Below.drew ?_ | with_reducible refine below_alloc ?_ _ | with_reducible refine below_set ?_ ?_ _ | with_reducible refine below_then ?_ (by with_reducible assumption) | with_reducible exact Nat.le_refl _ | with_reducible exact Below.size (by with_reducible assumption)))))⟩
                          · have HMX := Lib.hid (HNX.out (y, Y) (by simp [mixAt]))
                            clear HNX HNE hEX hEY
                            go_wp2_with fail
                            go_quiet (fail)
                            go_wp2_with (at_builtin; go_must (refine wpList_append_own _ rfl _ _ 22 rfl w9.heap.size 27 i0 _ 2 32 Tryz.underlying22 HI.out HZ0.out HZ1.out HZ2.out rfl (by decide) _ cs.length rows rfl (own_below HOWN.out (by (repeat' (first | with_reducible refine below_drewN ?_ _ | with_reducible assumption | with_reducible exact Below.refl _ _ | with_reducible refine Below.drew ?_ | with_reducible refine below_alloc ?_ _ | with_reducible refine below_set ?_ ?_ _ | with_reducible refine below_then ?_ (by with_reducible assumption) | with_reducible exact Nat.le_refl _ | with_reducible exact Below.size (by with_reducible assumption))))) _ 1 1 [.int .u8 (y : Int), .slice Q Y.length cQ] rfl rfl (newsA (by first | rfl | simp)) (cells2 rfl rfl) (by unfold maxLen; omega) (by omega) (hsz _ (by (repeat' (first | with_reducible refine below_drewN ?_ _ | with_reducible assumption | with_reducible exact Below.refl _ _ | with_reducible refine Below.drew ?_ | with_reducible refine below_alloc ?_ _ | with_reducible refine below_set ?_ ?_ _ | with_reducible refine below_then ?_ (by with_reducible assumption) | with_reducible exact Nat.le_refl _ | with_reducible exact Below.size (by with_reducible assumption))))) ?_); intro v6 w16 own6 hg6 _hv6; have HF := Lib.hid (mix_end HBW HOWN HROW (by (repeat' (first | with_reducible refine below_drewN ?_ _ | with_reducible assumption | with_reducible exact Below.refl _ _ | with_reducible refine Below.drew ?_ | with_reducible refine below_alloc ?_ _ | with_reducible refine below_set ?_ ?_ _ | with_reducible refine below_then ?_ (by with_reducible assumption) | with_reducible exact Nat.le_refl _ | with_reducible exact Below.size (by with_reducible assumption)))) HMX hy256 (HDY).out own6 hg6 hlt2); clear own6 hg6 _hv6)
                            refine ⟨by simpa using HF.out, by simp [intOf]; omega⟩
                        · cases wk
                          · have HMX := Lib.hid (HNX.out (x, X) (by simp [mixAt]))
                            clear HNX HNE hEX hEY
                            go_wp2_with fail
                            go_quiet (fail)
                            go_wp2_with (at_builtin; go_must (refine wpList_append_own _ rfl _ _ 22 rfl w9.heap.size 27 i0 _ 2 32 Tryz.underlying22 HI.out HZ0.out HZ1.out HZ2.out rfl (by decide) _ cs.length rows rfl (own_below HOWN.out (by (repeat' (first | with_reducible refine below_drewN ?_ _ | with_reducible assumption | with_reducible exact Below.refl _ _ | with_reducible refine Below.drew ?_ | with_reducible refine below_alloc ?_ _ | with_reducible refine below_set ?_ ?_ _ | with_reducible refine below_then ?_ (by with_reducible assumption) | with_reducible exact Nat.le_refl _ | with_reducible exact Below.size (by with_reducible assumption))))) _ 1 1 [.int .u8 (x : Int), .slice P X.length cP] rfl rfl (newsA (by first | rfl | simp)) (cells2 rfl rfl) (by unfold maxLen; omega) (by omega) (hsz _ (by (repeat' (first | with_reducible refine below_drewN ?_ _ | with_reducible assumption | with_reducible exact Below.refl _ _ | with_reducible refine Below.drew ?_ | with_reducible refine below_alloc ?_ _ | with_reducible refine below_set ?_ ?_ _ | with_reducible refine below_then ?_ (by with_reducible assumption) | with_reducible exact Nat.le_refl _ | with_reducible exact Below.size (by with_reducible assumption))))) ?_); intro v6 w16 own6 hg6 _hv6; have HF := Lib.hid (mix_end HBW HOWN HROW (by (repeat' (first | with_reducible refine below_drewN ?_ _ | with_reducible assumption | with_reducible exact Below.refl _ _ | with_reducible refine Below.drew ?_ | with_reducible refine below_alloc ?_ _ | with_reducible refine below_set ?_ ?_ _ | with_reducible refine below_then ?_ (by with_reducible assumption) | with_reducible exact Nat.le_refl _ | with_reducible exact Below.size (by with_reducible assumption)))) HMX hx256 (HDX).out own6 hg6 hlt2); clear own6 hg6 _hv6)
                            refine ⟨by simpa using HF.out, by simp [intOf]; omega⟩
                          · have hcX : ∀ r, (convert 25 9 (.slice P X.length cP)).run Tryz.prog (wo.drewN r) = .ok (.string (strB X)) (wo.drewN r) := fun r => conv_n (hEX.drewN r) rfl cP
                            have hcY : ∀ r, (convert 25 9 (.slice Q Y.length cQ)).run Tryz.prog (wo.drewN r) = .ok (.string (strB Y)) (wo.drewN r) := fun r => conv_n (hEY.drewN r) rfl cQ
                            have hcX0 := conv_n hEX rfl cP
                            have hcY0 := conv_n hEY rfl cQ
                            by_cases hXY : X = Y
                            · have HMX := Lib.hid (HNX.out (x, X) (by simp [mixAt, sameB, hXY]))
                              have hst : strB Y = strB X := by rw [hXY]
                              rw [hst] at hcY hcY0
                              clear HNX HNE hEX hEY hXY hst
                              generalize strB X = SX at *
                              go_wp2_with fail
                              go_quiet (fail)
                              go_wp2_with (at_builtin; go_must (refine wpList_append_own _ rfl _ _ 22 rfl w9.heap.size 27 i0 _ 2 32 Tryz.underlying22 HI.out HZ0.out HZ1.out HZ2.out rfl (by decide) _ cs.length rows rfl (own_below HOWN.out (by (repeat' (first | with_reducible refine below_drewN ?_ _ | with_reducible assumption | with_reducible exact Below.refl _ _ | with_reducible refine Below.drew ?_ | with_reducible refine below_alloc ?_ _ | with_reducible refine below_set ?_ ?_ _ | with_reducible refine below_then ?_ (by with_reducible assumption) | with_reducible exact Nat.le_refl _ | with_reducible exact Below.size (by with_reducible assumption))))) _ 1 1 [.int .u8 (x : Int), .slice P X.length cP] rfl rfl (newsA (by first | rfl | simp)) (cells2 rfl rfl) (by unfold maxLen; omega) (by omega) (hsz _ (by (repeat' (first | with_reducible refine below_drewN ?_ _ | with_reducible assumption | with_reducible exact Below.refl _ _ | with_reducible refine Below.drew ?_ | with_reducible refine below_alloc ?_ _ | with_reducible refine below_set ?_ ?_ _ | with_reducible refine below_then ?_ (by with_reducible assumption) | with_reducible exact Nat.le_refl _ | with_reducible exact Below.size (by with_reducible assumption))))) ?_); intro v6 w16 own6 hg6 _hv6; have HF := Lib.hid (mix_end HBW HOWN HROW (by (repeat' (first | with_reducible refine below_drewN ?_ _ | with_reducible assumption | with_reducible exact Below.refl _ _ | with_reducible refine Below.drew ?_ | with_reducible refine below_alloc ?_ _ | with_reducible refine below_set ?_ ?_ _ | with_reducible refine below_then ?_ (by with_reducible assumption) | with_reducible exact Nat.le_refl _ | with_reducible exact Below.size (by with_reducible assumption)))) HMX hx256 (HDX).out own6 hg6 hlt2); clear own6 hg6 _hv6)
                              refine ⟨by simpa using HF.out, by simp [intOf]; omega⟩
                            · obtain ⟨rfl, rfl⟩ := HZ.out.1 15 (HNE.out 15 (by simp [mixAt, sameB, hXY]))
                              have hne : ¬ strB X = strB Y := fun h => hXY (strB_inj hEX.1 hEY.1 h)
                              have hne2 : ((strB X).toList == (strB Y).toList) = false := by
                                rw [beq_eq_false_iff_ne]
                                intro h
                                rw [ByteArray.toList_eq, ByteArray.toList_eq] at h
                                exact hne (by
                                  unfold strB at h ⊢
                                  congr 1
                                  exact Array.toList_inj.1 h)
                              clear HNX HNE hEX hEY hXY
                              generalize strB X = SX at *
                              generalize strB Y = SY at *
                              go_wp2_with fail
                              go_quiet (fail)
                              go_wp2
                              go_ret
                              exact ⟨rfl, below_then HB9.out (below_then HBW.out (by (repeat' (first | with_reducible refine below_drewN ?_ _ | with_reducible assumption | with_reducible exact Below.refl _ _ | with_reducible refine Below.drew ?_ | with_reducible refine below_alloc ?_ _ | with_reducible refine below_set ?_ ?_ _ | with_reducible refine below_then ?_ (by with_reducible assumption) | with_reducible exact Nat.le_refl _ | with_reducible exact Below.size (by with_reducible assumption)))))⟩
                      · obtain rfl : j = k := by omega
                        obtain ⟨A9, c9, rfl, hck⟩ := cks_of_own hown (hrow.mono (fun v l h => by
                          obtain ⟨P, c, rfl, h1, h2⟩ := h
                          exact ⟨P, c, rfl, h1.below hb, h2⟩))
                        have HCK := Lib.hid hck
                        obtain ⟨rfl, hzb, hzl⟩ := HZ.out.2 cs (by rw [HRR.out, hmx])
                        have HZB := Lib.hid (hzb.below (below_then HB69.out hb))
                        have HZL := Lib.hid hzl
                        have HML := Lib.hid (mix_mild hmx (by omega) (fun i hi => ⟨(HP9.out.chunk i (by rw [HNP.out]; omega)).1, HD1.out i (by rw [HNP.out]; omega), (HP9.out.chunk i (by rw [HNP.out]; omega)).2⟩) (fun i hi => ⟨(HQ9.out.chunk i (by rw [HNQ.out]; omega)).1, HD2.out i (by rw [HNQ.out]; omega), (HQ9.out.chunk i (by rw [HNQ.out]; omega)).2⟩))
                        have HCL := Lib.hid hcl
                        rw [hcl]
                        clear hcl hck hrow hown hb hmx HROW HOWN hzb hzl
                        go_wp2_with fail
                        refine (pack_n A9 c9 j cs wo HCK.out HCL.out HML.out).mono ?_
                        rintro e w19 ⟨v19, rfl, hd9, hb9⟩
                        have HB19 := Lib.hid (below_then (below_then HB9.out HBW.out) hb9)
                        obtain ⟨A19, c19, rfl, hB19, _⟩ := Byt.of_own hd9.2 hd9.1
                        have hcz := conv_n (HZB.out.below hb9) HZL.out zc
                        have hcw := conv_n hB19 rfl c19
                        generalize strB (packL cs) = SP at *
                        clear hd9 hb9 hB19
                        go_wp2_with fail
                        go_ret
                        exact ⟨rfl, HB19.out⟩
            · rw [mendL_len hlen] at hm6
              obtain ⟨_, rfl⟩ := hm6
              go_wp2_with fail
              refine (HO1.out w6 (Below.refl _ _)).mono ?_
              rintro e w7 ⟨hb7, A7, c7, rfl, _⟩
              have HB7 := Lib.hid hb7
              have hps := (HS1.out ps rfl).1
              have hqs := (HS2.out qs rfl).1
              clear hb7
              go_wp2_with fail
              refine (HO2.out w7 HB7.out).mono ?_
              rintro e w8 ⟨hb8, A8, c8, rfl, _⟩
              have HB8 := Lib.hid (below_then HB6.out (below_then HB7.out hb8))
              have hne : ((ps.length : Int) != (qs.length : Int)) = true := by simp; omega
              clear hb8 HO1 HO2 HS1 HS2
              generalize ps.length = s at *
              generalize qs.length = t at *
              go_wp2_with fail
              go_loopw [26, 27] (fun no i wr => ∃ k r : Nat, no = .bool true ∧ i = .int .i64 k ∧ k ≤ s ∧ wr = w8.drewN r) (fun _ i _ => s - (intOf i).toNat)
              case atStart => exact ⟨0, 0, rfl, rfl, by omega, rfl⟩
              case round =>
                obtain ⟨k, r, rfl, rfl, hk, rfl⟩ := hrel
                by_cases hlt : k < s ∧ k < t
                · obtain ⟨q1, q2⟩ := hlt
                  go_wp2_with fail
                  go_quiet (fail)
                  go_wp2
                  exact ⟨⟨k + 1, _, rfl, by go_num, by omega, rfl⟩, by simp [intOf]; omega⟩
                · by_cases q1 : k < s
                  · have q2 : ¬ k < t := fun h => hlt ⟨q1, h⟩
                    go_wp2_with fail
                    all_goals (go_ret; exact ⟨rfl, below_drewN HB8.out _⟩)
                  · go_wp2_with fail
                    all_goals (go_ret; exact ⟨rfl, below_drewN HB8.out _⟩)
  · go_wp2_with fail
    all_goals first
      | (go_ret; exact ⟨rfl, HB1.out⟩)
      | omega
end Go.Proofs.YtnbhgeehlcjmdaaGreat
