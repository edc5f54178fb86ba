/- What the document tells of no changes: walk. -/
import Derived.Test.YtpfdgcdhcciilaaG8
import Derived.Test.YtpfdgcdhcciilaaH1
namespace Go.Proofs.Ytpfdgcdhcciilaa
open Go.RowKit

theorem decode_any (A : Option Addr) (c : Nat) (xs : List Nat) (w : World) (hB : Byt w A xs) (hl : xs.length ≤ 700) (hcap : xs.length ≤ c) :
    Calls Try.prog 12 #[.slice A xs.length c] w (DecPost xs w) := by
  by_cases h2 : xs.length < 2
  · exact decode_short A c xs w h2
  · obtain ⟨b, off, rfl, hc⟩ := hB.2 (by omega)
    exact decode_long b off c xs w (by omega) hl hcap hB (World.block_lt_of_cell? _ _ (hc 0 (by omega)))
theorem refDecode_any (A : Option Addr) (c : Nat) (xs : List Nat) (w : World) (hB : Byt w A xs) (hl : xs.length ≤ 700) (hcap : xs.length ≤ c) :
    Calls Try.prog 17 #[.slice A xs.length c] w (RefPost xs w) := by
  by_cases h2 : xs.length < 2
  · exact refDecode_short A c xs w h2
  · obtain ⟨b, off, rfl, hc⟩ := hB.2 (by omega)
    exact refDecode_long b off c xs w (by omega) hl hcap hB (World.block_lt_of_cell? _ _ (hc 0 (by omega)))
/-- a list of changes that is right and small -/
theorem good_of {cs : List Chg} (hr : rightC cs = true) (hf : fewB cs = true) (ho : ∀ i, i < cs.length → (cs.getD i default).old < 4294967296) : Good cs := by
  intro c hc
  obtain ⟨i, hi, rfl⟩ := List.getElem_of_mem hc
  have h1 := right_at hr i hi
  have h2 := (few_data hf).2 i hi
  have h3 := ho i hi
  rw [getD_at _ _ _ hi] at h1 h2 h3
  omega
theorem chs_nil (w : World) (A : Option Addr) : Chs w A [] := fun h => absurd h (by simp)

theorem enc_nil_len : (enc []).length = 6 := rfl
theorem enc_nil_0 : (enc []).getD 0 0 = 0 := rfl
theorem enc_nil_1 : (enc []).getD 1 0 = 0 := rfl
theorem enc_nil_lt : ∀ x ∈ enc [], x < 256 := by
  intro x hx
  simp only [enc, List.mem_append] at hx
  rcases hx with h | h
  · exact body_lt [] (by simp) (by simp) (by simp) x h
  · exact num4_lt _ x h
theorem dec_nil : dec (enc []) = ([], 0) := dec_enc [] (by intro c hc; simp at hc) (by simp) rfl
theorem encode_nil (w : World) : Calls Try.prog 9 #[.slice none 0 0] w fun e w' => ∃ v, e = .returned (.tuple #[v, .int .i64 0]) ∧ w'.ownsRow w.heap.size 5 1 v (enc []).length (bys (enc [])) ∧ Below w.heap.size w w' :=
  encode_right none 0 [] w (chs_nil w none) rfl rfl (by simp)
theorem right_nil (W : World) : Calls Try.prog 11 #[.slice none 0 0] W fun e w' => e = .returned (.bool true) ∧ Below W.heap.size W w' := right_any none 0 [] W (chs_nil W none) (by simp)
theorem right_one (W : World) (g : Nat) (h : g = W.heap.size) : Calls Try.prog 11 #[.slice (some ⟨g, 0, none⟩) 1 1] (W.alloc (.cells #[.int .i64 1, .int .u32 0, .slice none 0 0] 45)) fun e w' => e = .returned (.bool false) ∧ Below (W.alloc (.cells #[.int .i64 1, .int .u32 0, .slice none 0 0] 45)).heap.size (W.alloc (.cells #[.int .i64 1, .int .u32 0, .slice none 0 0] 45)) w' := by
  subst h
  have hk : Blk (W.alloc (.cells #[.int .i64 1, .int .u32 0, .slice none 0 0] 45)) W.heap.size 45 #[.int .i64 1, .int .u32 0, .slice none 0 0] := Blk.new rfl
  refine right_any _ 1 [⟨1, 0, []⟩] _ (fun _ => ⟨_, 0, rfl, fun i hi => ?_⟩) (by simp [maxLen])
  obtain rfl : i = 0 := by simpa using hi
  exact ⟨hk.cell 0, hk.cell 1, by simp, none, 0, hk.cell 2, Byt.nil _ _⟩

set_option maxRecDepth 100000 in
set_option maxHeartbeats 1000000 in
theorem awake_any (w : World) :
    Calls Try.prog 6 #[] w fun e w' => e = .returned (.bool true) ∧ Below w.heap.size w w' := by
  have HE := Lib.hid (encode_nil w)
  have HD := Lib.hid dec_nil
  have HEB := Lib.hid enc_nil_lt
  have HL := Lib.hid enc_nil_len
  have H01 : Hid ((enc []).getD 0 0 = 0 ∧ (enc []).getD 1 0 = 0) := ⟨enc_nil_0, enc_nil_1⟩
  generalize enc [] = X at *
  go_enter Try.func6, Try.ntmps6
  go_wp2_with fail
  refine (HE.out).mono ?_
  rintro e w1 ⟨v1, rfl, hown1, hb1⟩
  obtain ⟨A1, c1, rfl, hB1, hc1, _⟩ := Byt.of_own hown1 HEB.out
  have hl1 := HL.out
  obtain ⟨b, off, rfl, hcell⟩ := hB1.2 (by omega)
  have c0 := hcell 0 (by omega)
  have c1' := hcell 1 (by omega)
  rw [H01.out.1] at c0
  rw [H01.out.2] at c1'
  have DC := Lib.hid (decode_any _ c1 X w1 hB1 (by omega) hc1)
  have i6 : ((X.length : Int) == 6) = true := by simp [hl1]
  have i7 : 6 ≤ X.length := by omega
  have i8 : X.length ≤ 6 := by omega
  have bl : b < w1.heap.size := World.block_lt_of_cell? _ _ c0
  have HB1 := Lib.hid hb1
  clear hown1 hB1 hcell hb1 HL HEB H01 hl1
  go_wp2_with fail
  refine (DC.out).mono ?_
  rintro e w2 ⟨v2, rows, rfl, hown2, _, hb2⟩
  rw [HD.out] at hown2 ⊢
  obtain ⟨A2, c2, hv2, _⟩ := chs_of_own (cs := []) (rows := rows) hown2 (by obtain rfl : rows = [] := List.eq_nil_of_length_eq_zero (by simpa using hown2.1)
                                                                            rfl)
  subst hv2
  have d0 : w2.cell? ⟨b, off, none⟩ = some (.int .u8 0) := (hb2.cell bl).trans c0
  have d1 : w2.cell? ⟨b, off + 1, none⟩ = some (.int .u8 0) := (hb2.cell bl).trans c1'
  have HB2 := Lib.hid (below_then HB1.out hb2)
  clear hown2 hb2 c0 c1' hc1
  go_wp2_with fail
  refine (right_nil _).mono ?_
  rintro e w3 ⟨rfl, hb3⟩
  have HB3 := Lib.hid (below_then HB2.out hb3)
  clear hb3 d0 d1
  go_wp2_with fail
  refine (right_one _ _ rfl).mono ?_
  rintro e w4 ⟨rfl, hb4⟩
  have HB4 := Lib.hid (below_then (below_alloc HB3.out _) hb4)
  clear hb4
  go_wp2
  go_ret
  exact ⟨rfl, HB4.out⟩
end Go.Proofs.Ytpfdgcdhcciilaa
