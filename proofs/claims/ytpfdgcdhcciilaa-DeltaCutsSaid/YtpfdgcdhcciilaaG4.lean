/- The bytes of changes: the reference's walk. -/
import Derived.Test.YtpfdgcdhcciilaaG3
namespace Go.Proofs.Ytpfdgcdhcciilaa
open Go.RowKit

set_option maxRecDepth 100000 in
set_option maxHeartbeats 2000000 in
theorem refEncode_right (A : Option Addr) (c : Nat) (cs : List Chg) (w : World) (hB : Chs w A cs) (hr : rightC cs = true) (hf : fewB cs = true) (hx : ∀ i, i < cs.length → ∀ x ∈ (cs.getD i default).data, x < 256) :
    Calls Try.prog 14 #[.slice A cs.length c] w fun e w' => ∃ v, e = .returned v ∧ w'.ownsRow w.heap.size 5 1 v (enc cs).length (bys (enc cs)) ∧ Below w.heap.size w w' := by
  have hl8 := (few_data hf).1
  have HRT := Lib.hid (right_at hr)
  have HF := Lib.hid (few_data hf).2
  have HL := Lib.hid (bodyTo_le cs hf)
  have HX := Lib.hid hx
  clear hr hf hx
  go_enter Try.func14, Try.ntmps14
  go_wp2_with fail
  refine (refNumber2_any cs.length (by omega) _).mono ?_
  rintro e w2 ⟨v2, rfl, hown2, hb2⟩
  have HB2 := Lib.hid hb2
  have HOWN2 := Lib.hid hown2
  clear hb2 hown2
  go_wp2
  go_loopw [3, 4] (fun v i wr => EncRel cs w v i wr) (fun _ i _ => cs.length - (intOf i).toNat)
  case atStart => exact ⟨0, by omega, rfl, HB2.out, by simpa [bodyTo, num2, bys] using HOWN2.out⟩
  case round =>
    obtain ⟨k, hk, rfl, hb, hown⟩ := hrel
    obtain ⟨wo, rfl⟩ : ∃ wo : World, wo = wr := ⟨_, rfl⟩
    have hle := HL.out k hk
    by_cases hlt : k < cs.length
    · have HS := Lib.hid (bodyTo_succ cs k hlt)
      obtain ⟨b, off, rfl, hc⟩ := hB (by omega)
      obtain ⟨f0, f1, eo, P, cP, f2, eB⟩ := hc k hlt
      have e0 := (hb.cell (World.block_lt_of_cell? _ _ f0)).trans f0
      have F1 := Lib.hid f1
      have F2 := Lib.hid f2
      have hrt := HRT.out k hlt
      have hd60 := HF.out k hlt
      have i1 : (0 : Int) ≤ (k : Int) := by omega
      have i2 : (k : Int) < (cs.length : Int) := by omega
      have HB := Lib.hid hb
      have HOWN := Lib.hid hown
      have HEB := Lib.hid eB
      clear hc hB hb hown eB HB2 HOWN2 f0 f1 f2
      generalize cs.getD k default = x at *
      obtain ⟨bay, old, data⟩ := x
      dsimp only at *
      obtain ⟨hr1, hr2, hr3⟩ := hrt
      obtain ⟨y, rfl⟩ : ∃ y : Nat, bay = (y : Int) := ⟨bay.toNat, by omega⟩
      have hy : y < 256 := by omega
      generalize bodyTo cs k = X at *
      go_wp2_with (at_builtin; refine wpList_append_byt rfl (.tmp 14) (.tmp 21) rfl w.heap.size _ X.length (bys X) rfl (HOWN.out.alloc _) _ 1 [y] rfl (byt1 hy (by simp)) (by simp; omega) (by have := HB.out.size; simp; omega) ?_; intro v1 w1 own1 hg1 _hv1; have HB1 := Lib.hid (app_below (below_alloc HB.out _) (HOWN.out.alloc _) hg1); have HO1 := Lib.hid own1; have q1 := (HB1.out.cell (World.block_lt_of_cell? _ _ F1.out)).trans F1.out; clear own1 hg1 _hv1)
      refine (refNum4B_any old eo _).mono ?_
      rintro e w2 ⟨A2, c2, rfl, hB2, hb2⟩
      have HB2 := Lib.hid (below_then HB1.out hb2)
      have HO2 := Lib.hid (own_below HO1.out hb2)
      clear hb2 q1 e0
      go_wp2_with (at_builtin; refine wpList_append_byt rfl (.tmp 23) (.tmp 30) rfl w.heap.size _ (X.length + 1) (bys X ++ bys [y]) rfl HO2.out A2 c2 (num4 old) rfl hB2 (by simp [num4]; omega) HB2.out.size ?_; intro v3 w3 own3 hg3 _hv3; have HB3 := Lib.hid (app_below HB2.out HO2.out hg3); have HO3 := Lib.hid own3; have q3 := (HB3.out.cell (World.block_lt_of_cell? _ _ F2.out)).trans F2.out; clear own3 hg3 _hv3)
      have hdl : data.length < 4294967296 := by omega
      refine (refNum4B_any data.length hdl _).mono ?_
      rintro e w4 ⟨A4, c4, rfl, hB4, hb4⟩
      have HB4 := Lib.hid (below_then HB3.out hb4)
      have HO4 := Lib.hid (own_below HO3.out hb4)
      clear hb4 q3
      go_wp2_with (first | (at_builtin; refine wpList_append_byt rfl (.tmp 32) (.tmp 39) rfl w.heap.size _ (X.length + 1 + 4) (bys X ++ bys [y] ++ bys (num4 old)) rfl HO4.out A4 c4 (num4 data.length) rfl hB4 (by simp [num4]; omega) HB4.out.size ?_; intro v5 w5 own5 hg5 _hv5; have HB5 := Lib.hid (app_below HB4.out HO4.out hg5); have HO5 := Lib.hid own5; have q5 := (HB5.out.cell (World.block_lt_of_cell? _ _ F2.out)).trans F2.out; clear own5 hg5 _hv5) | (at_builtin; refine wpList_append_byt rfl (.tmp 41) (.tmp 46) rfl w.heap.size _ (X.length + 1 + 4 + 4) (bys X ++ bys [y] ++ bys (num4 old) ++ bys (num4 data.length)) rfl HO5.out P cP data rfl (HEB.out.below HB5.out) (by omega) HB5.out.size ?_; intro v6 w6 own6 hg6 _hv6; have HB6 := Lib.hid (app_below HB5.out HO5.out hg6); have HO6 := Lib.hid own6; clear own6 hg6 _hv6 q5))
      refine ⟨⟨k + 1, by omega, by go_num, HB6.out, ?_⟩, by simp [intOf]; omega⟩
      have h6 := HO6.out
      have en : (X ++ [(y : Int).toNat] ++ num4 old ++ num4 data.length ++ data).length = X.length + 1 + 4 + 4 + data.length := by simp only [List.length_append, List.length_cons, List.length_nil, num4]
      rw [HS.out, en]
      simpa only [bys_app, Int.toNat_natCast] using h6
    · obtain rfl : k = cs.length := by omega
      rw [bodyTo_len] at hown hle
      have hlt256 := body_lt cs (fun i hi => (HRT.out i hi).1) (fun i hi => (HRT.out i hi).2.1) HX.out
      obtain ⟨A5, c5, rfl, hB5, _⟩ := Byt.of_own hown hlt256
      have hs32 : sumOf (body cs) < 4294967296 := by unfold sumOf; omega
      have HB := Lib.hid hb
      have HOWN := Lib.hid hown
      have HSUM := Lib.hid (refSum_any A5 c5 (body cs) wo hB5 (by unfold maxLen; omega))
      have HEN : Hid ((enc cs).length = (body cs).length + 4 ∧ bys (enc cs) = bys (body cs) ++ bys (num4 (sumOf (body cs)))) := ⟨by simp [enc, num4], by simp [enc, bys_app]⟩
      clear hb hown hlt256 HB2 HOWN2 hB5
      generalize hbd : body cs = X at *
      clear hbd
      generalize sumOf X = sm at *
      go_wp2_with fail
      refine (HSUM.out).mono ?_
      rintro e w1 ⟨rfl, rfl⟩
      go_wp2_with fail
      refine (refNum4B_any sm hs32 _).mono ?_
      rintro e w2 ⟨A2, c2, rfl, hB2, hb2⟩
      have HO2 := Lib.hid (own_below HOWN.out hb2)
      have HB2 := Lib.hid (below_then HB.out hb2)
      go_wp2_with (at_builtin; refine wpList_append_byt rfl (.tmp 48) (.tmp 52) rfl w.heap.size _ X.length (bys X) rfl HO2.out A2 c2 (num4 sm) rfl hB2 (by simp [num4]; omega) HB2.out.size ?_; intro v3 w3 own3 hg3 _hv3; have HB3 := Lib.hid (app_below HB2.out HO2.out hg3); have HO3 := Lib.hid own3; clear _hv3 own3 hg3)
      go_ret
      refine ⟨_, rfl, ?_, HB3.out⟩
      rw [HEN.out.1, HEN.out.2]
      exact HO3.out
end Go.Proofs.Ytpfdgcdhcciilaa
