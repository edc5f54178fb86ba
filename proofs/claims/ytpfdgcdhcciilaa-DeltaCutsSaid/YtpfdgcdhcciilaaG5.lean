/- Are two rows of changes the same: walk. -/
import Derived.Test.YtpfdgcdhcciilaaG4
namespace Go.Proofs.Ytpfdgcdhcciilaa
open Go.RowKit

def sameC (xs ys : List Chg) : Bool := decide (xs = ys)

set_option maxRecDepth 100000 in
set_option maxHeartbeats 2000000 in
theorem same_any (A B : Option Addr) (c d : Nat) (xs ys : List Chg) (w : World) (hA : Chs w A xs) (hB : Chs w B ys) (hl : xs.length ≤ 65536) (hx : ∀ i, i < xs.length → (xs.getD i default).data.length ≤ 65536) :
    Calls Try.prog 15 #[.slice A xs.length c, .slice B ys.length d] w fun e w' => e = .returned (.bool (sameC xs ys)) ∧ ∃ n, w' = w.drewN n := by
  by_cases hlen : xs.length = ys.length
  · have hL : ((xs.length : Int) != (ys.length : Int)) = false := by simp [hlen]
    have HL := Lib.hid hlen
    have hl1 : xs.length ≤ ys.length := by omega
    have hl2 : ys.length ≤ xs.length := by omega
    have HX := Lib.hid hx
    clear hlen hx
    go_enter Try.func15, Try.ntmps15
    go_wp2
    clear hL
    go_loopw [5] (fun i wr => ∃ k n : Nat, wr = w.drewN n ∧ k ≤ xs.length ∧ i = .int .i64 k ∧ xs.take k = ys.take k) (fun i _ => xs.length - (intOf i).toNat)
    case atStart => exact ⟨0, 0, rfl, by omega, rfl, rfl⟩
    case round =>
      obtain ⟨k, n, rfl, hk, rfl, he⟩ := hrel
      have HE := Lib.hid he
      clear he
      by_cases hlt : k < xs.length
      · obtain ⟨b, off, rfl, hc⟩ := hA (by omega)
        obtain ⟨b', off', rfl, hc'⟩ := hB (by omega)
        obtain ⟨c0, c1, _, P, cP, c2, cB⟩ := hc k hlt
        obtain ⟨d0, d1, _, Q, cQ, d2, dB⟩ := hc' k (by omega)
        have S1 := Lib.hid (take_snoc xs default k hlt)
        have S2 := Lib.hid (take_snoc ys default k (by omega))
        have hx60 := HX.out k hlt
        have i1 : (0 : Int) ≤ (k : Int) := by omega
        have i2 : (k : Int) < (xs.length : Int) := by omega
        have i3 : (k : Int) < (ys.length : Int) := by omega
        have HNE : Hid (xs.getD k default ≠ ys.getD k default → sameC xs ys = false) := by
          intro h
          unfold sameC
          rw [decide_eq_false_iff_not]
          intro e
          exact h (by rw [e])
        have CB := Lib.hid cB
        have DB := Lib.hid dB
        clear hc hc' cB dB hA hB
        generalize xs.getD k default = x at *
        generalize ys.getD k default = y at *
        obtain ⟨bay, old, data⟩ := x
        obtain ⟨bay', old', data'⟩ := y
        dsimp only at *
        cases h1 : (bay != bay')
        · obtain rfl : bay = bay' := by simpa using h1
          cases h2 : ((old : Int) != (old' : Int))
          · obtain rfl : old = old' := by have : (old : Int) = old' := by simpa using h2
                                          omega
            cases h3 : ((data.length : Int) != (data'.length : Int))
            · have hdl : data.length = data'.length := by have : (data.length : Int) = data'.length := by simpa using h3
                                                          omega
              have HDL := Lib.hid hdl
              clear hdl
              go_wp2
              go_quiet (fail)
              go_wp2
              clear h1 h2 h3
              go_loopw [6] (fun j wr => ∃ m n : Nat, wr = w.drewN n ∧ m ≤ data.length ∧ j = .int .i64 m ∧ data.take m = data'.take m) (fun j _ => data.length - (intOf j).toNat)
              case atStart => exact ⟨0, n + nq, by first | rfl | rw [World.drewN_drewN], by omega, rfl, rfl⟩
              case round =>
              obtain ⟨m, n2, rfl, hm, rfl, hd⟩ := hrel
              have HD := Lib.hid hd
              clear hd
              by_cases hmt : m < data.length
              · have hmt' : m < data'.length := by have := HDL.out; omega
                obtain ⟨b2, o2, rfl, cc⟩ := CB.out.2 (by omega)
                obtain ⟨b3, o3, rfl, dd⟩ := DB.out.2 (by omega)
                have g0 := cc m hmt
                have g1 := dd m hmt'
                have T1 := Lib.hid (take_snoc data 0 m hmt)
                have T2 := Lib.hid (take_snoc data' 0 m hmt')
                have j1 : (0 : Int) ≤ (m : Int) := by omega
                have j2 : (m : Int) < (data.length : Int) := by omega
                have j3 : (m : Int) < (data'.length : Int) := by omega
                have HN2 : Hid (data.getD m 0 ≠ data'.getD m 0 → sameC xs ys = false) := by
                  intro h
                  refine HNE.out (fun e => h ?_)
                  injection e with _ _ e
                  rw [e]
                clear cc dd
                generalize data.getD m 0 = u at *
                generalize data'.getD m 0 = v at *
                cases h4 : ((u : Int) != (v : Int))
                · go_wp2
                  go_quiet (fail)
                  go_wp2
                  refine ⟨⟨m + 1, _, rfl, by omega, by go_num, ?_⟩, by simp [intOf]; omega⟩
                  have huv : (u : Int) = (v : Int) := by simpa using h4
                  rw [T1.out, T2.out, HD.out, show u = v by omega]
                · have hF : Hid (sameC xs ys = false) := HN2.out (by rintro rfl; simp at h4)
                  go_wp2
                  go_quiet (fail)
                  go_wp2
                  go_ret
                  exact ⟨by rw [hF.out]; rfl, n2 + nq, by first | rfl | rw [World.drewN_drewN]⟩
              · obtain rfl : m = data.length := by omega
                have hdd : Hid (data = data') := by
                  have := HD.out
                  rwa [List.take_length, List.take_of_length_le (by have := HDL.out; omega)] at this
                go_wp2
                refine ⟨⟨k + 1, _, rfl, by omega, by go_num, ?_⟩, by simp [intOf]; omega⟩
                rw [S1.out, S2.out, HE.out, hdd.out]
            · have hF : Hid (sameC xs ys = false) := HNE.out (by rintro e; injection e with _ _ e; subst e; simp at h3)
              go_wp2
              go_quiet (fail)
              go_wp2
              go_ret
              exact ⟨by rw [hF.out]; rfl, n + nq, by first | rfl | rw [World.drewN_drewN]⟩
          · have hF : Hid (sameC xs ys = false) := HNE.out (by rintro e; injection e with _ e _; subst e; simp at h2)
            go_wp2
            go_quiet (fail)
            go_wp2
            go_ret
            exact ⟨by rw [hF.out]; rfl, n + nq, by first | rfl | rw [World.drewN_drewN]⟩
        · have hF : Hid (sameC xs ys = false) := HNE.out (by rintro e; injection e with e _ _; subst e; simp at h1)
          go_wp2
          go_quiet (fail)
          go_wp2
          go_ret
          exact ⟨by rw [hF.out]; rfl, n + nq, by first | rfl | rw [World.drewN_drewN]⟩
      · obtain rfl : k = xs.length := by omega
        have hy : Hid (sameC xs ys = true) := by
          show sameC xs ys = true
          unfold sameC
          rw [decide_eq_true_iff]
          have := HE.out
          rwa [List.take_length, List.take_of_length_le (by omega)] at this
        go_wp2
        go_ret
        exact ⟨by rw [hy.out]; rfl, _, rfl⟩
  · have hL : ((xs.length : Int) != (ys.length : Int)) = true := by simp; omega
    have hne : Hid (sameC xs ys = false) := by
      show sameC xs ys = false
      unfold sameC
      rw [decide_eq_false_iff_not]
      intro e
      exact hlen (by rw [e])
    clear hlen
    go_enter Try.func15, Try.ntmps15
    go_wp2
    go_ret
    exact ⟨by rw [hne.out]; rfl, 0, rfl⟩
end Go.Proofs.Ytpfdgcdhcciilaa
