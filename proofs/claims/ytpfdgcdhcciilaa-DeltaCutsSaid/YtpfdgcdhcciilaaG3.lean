/- The bytes of changes: the program's and the reference's walk. -/
import Derived.Test.YtpfdgcdhcciilaaG2
namespace Go.Proofs.Ytpfdgcdhcciilaa
open Go.RowKit

def Blk (w : World) (g : Nat) (t : TypeId) (cs : Array Value) : Prop := w.heap[g]? = some (.cells cs t (0, 0))
theorem Blk.lt {w : World} {g : Nat} {t : TypeId} {cs : Array Value} (h : Blk w g t cs) : g < w.heap.size := by
  rcases Nat.lt_or_ge g w.heap.size with hlt | hge
  · exact hlt
  · unfold Blk at h; rw [Array.getElem?_eq_none hge] at h; cases h
theorem Blk.cell {w : World} {g : Nat} {t : TypeId} {cs : Array Value} (h : Blk w g t cs) (i : Nat) : w.cell? ⟨g, i, none⟩ = cs[i]? := cell_of_row w g i cs t (0, 0) h
theorem Blk.below {w w' : World} {g : Nat} {t : TypeId} {cs : Array Value} (h : Blk w g t cs) (hb : Below w.heap.size w w') : Blk w' g t cs := (hb.block g h.lt).trans h
theorem Blk.new {w : World} {g : Nat} {t : TypeId} {cs : Array Value} (h : g = w.heap.size) : Blk (w.alloc (.cells cs t)) g t cs := by subst h; exact heap_alloc_new w _
theorem Blk.alloc {w : World} {g : Nat} {t : TypeId} {cs : Array Value} (h : Blk w g t cs) (o : Obj) : Blk (w.alloc o) g t cs := (Below.heap_alloc w o g h.lt).trans h
theorem Blk.grown {w w' : World} {g : Nat} {t : TypeId} {cs : Array Value} (h : Blk w g t cs) {base : Nat} {e : TypeId} {size n : Nat} {v : Value} {xs : List Value} (hown : w.ownsRow base e size v n xs) (hg : w.grownBy w' v.ownBlock) (hne : e ≠ t) : Blk w' g t cs := by
  refine (hg.block g h.lt (fun he => ?_)).trans h
  rcases hown.2 with ⟨rfl, _⟩ | ⟨g', cap, cur, rfl, _, hh, _⟩
  · simp [Value.ownBlock] at he
  · have : g = g' := by simpa [Value.ownBlock] using he
    subst this
    unfold Blk at h
    rw [h] at hh
    injection hh with hh
    injection hh with _ ht
    exact hne ht.symm
theorem app_below {w0 w w1 : World} {e : TypeId} {size n : Nat} {v : Value} {xs : List Value} (hb : Below w0.heap.size w0 w) (hown : w.ownsRow w0.heap.size e size v n xs) (hg : w.grownBy w1 v.ownBlock) : Below w0.heap.size w0 w1 :=
  Below.grown hb hg hb.size (fun k hk => (hown.lt k hk).1)
theorem byt1 {w : World} {g x : Nat} (hx : x < 256) (h : g = w.heap.size) : Byt (w.alloc (.cells #[.int .u8 (x : Int)] 5)) (some ⟨g, 0, none⟩) [x] := by
  subst h
  refine ⟨by simpa using hx, fun _ => ⟨_, 0, rfl, fun i hi => ?_⟩⟩
  obtain rfl : i = 0 := by simpa using hi
  rw [cell_of_row _ _ _ _ 5 (0, 0) (heap_alloc_new w _)]
  rfl

theorem num4B_any (n : Nat) (hn : n < 4294967296) (w : World) :
    Calls Try.prog 18 #[.int .u64 (n : Int), .int .i64 4] w fun e w' => ∃ A c, e = .returned (.slice A 4 c) ∧ Byt w' A (num4 n) ∧ Below w.heap.size w w' := by
  refine (number4_any n hn w).mono ?_
  rintro e w' ⟨v, rfl, hown, hb⟩
  obtain ⟨A, c, rfl, hB, _⟩ := Byt.of_own hown (num4_lt n)
  exact ⟨A, c, rfl, hB, hb⟩
theorem refNum4B_any (n : Nat) (hn : n < 4294967296) (w : World) :
    Calls Try.prog 23 #[.int .i64 (n : Int), .int .i64 4] w fun e w' => ∃ A c, e = .returned (.slice A 4 c) ∧ Byt w' A (num4 n) ∧ Below w.heap.size w w' := by
  refine (refNumber4_any n hn w).mono ?_
  rintro e w' ⟨v, rfl, hown, hb⟩
  obtain ⟨A, c, rfl, hB, _⟩ := Byt.of_own hown (num4_lt n)
  exact ⟨A, c, rfl, hB, hb⟩

def chgB (c : Chg) : List Nat := [c.bay.toNat] ++ num4 c.old ++ num4 c.data.length ++ c.data
def bodyTo (cs : List Chg) (k : Nat) : List Nat := num2 cs.length ++ (cs.take k).flatMap chgB
def body (cs : List Chg) : List Nat := num2 cs.length ++ cs.flatMap chgB
def enc (cs : List Chg) : List Nat := body cs ++ num4 (sumOf (body cs))
theorem bodyTo_len (cs : List Chg) : bodyTo cs cs.length = body cs := by unfold bodyTo; rw [List.take_length]; rfl
theorem bodyTo_succ (cs : List Chg) (k : Nat) (h : k < cs.length) : bodyTo cs (k + 1) = bodyTo cs k ++ [(cs.getD k default).bay.toNat] ++ num4 (cs.getD k default).old ++ num4 (cs.getD k default).data.length ++ (cs.getD k default).data := by
  unfold bodyTo
  rw [take_snoc cs default k h, List.flatMap_append]
  simp [chgB, List.append_assoc]
theorem right_at {cs : List Chg} : ∀ {last : Int}, rightFrom last cs = true → ∀ i, i < cs.length → last < (cs.getD i default).bay ∧ (cs.getD i default).bay < 256 ∧ 2 ≤ (cs.getD i default).data.length := by
  induction cs with
  | nil => intro _ _ i hi; simp at hi
  | cons c cs ih =>
    intro last h i hi
    unfold rightFrom at h
    split at h
    · cases h
    · rename_i hn
      rcases i with _ | i
      · simp only [List.getD_cons_zero]
        omega
      · have := ih h i (by simpa using hi)
        simp only [List.getD_cons_succ]
        omega
theorem few_data {cs : List Chg} (h : fewB cs = true) : cs.length ≤ 8 ∧ ∀ i, i < cs.length → (cs.getD i default).data.length ≤ 60 := by
  unfold fewB at h
  rw [Bool.and_eq_true, List.all_eq_true] at h
  refine ⟨by simpa using h.1, fun i hi => ?_⟩
  have := h.2 (cs.getD i default) (by simp [List.getD, hi])
  simpa using this
theorem bodyTo_le (cs : List Chg) (h : fewB cs = true) : ∀ k, k ≤ cs.length → (bodyTo cs k).length ≤ 2 + 69 * k := by
  intro k
  induction k with
  | zero => intro _; simp [bodyTo, num2]
  | succ k ih =>
    intro hk
    have := (few_data h).2 k (by omega)
    have := ih (by omega)
    rw [bodyTo_succ cs k (by omega)]
    simp only [List.length_append, List.length_cons, List.length_nil, num4]
    omega
theorem body_lt (cs : List Chg) (h0 : ∀ i, i < cs.length → -1 < (cs.getD i default).bay) (h1 : ∀ i, i < cs.length → (cs.getD i default).bay < 256) (hx : ∀ i, i < cs.length → ∀ x ∈ (cs.getD i default).data, x < 256) : ∀ x ∈ body cs, x < 256 := by
  intro x hx'
  unfold body at hx'
  rw [List.mem_append, List.mem_flatMap] at hx'
  rcases hx' with h | ⟨c, hc, h⟩
  · exact num2_lt _ x h
  · obtain ⟨i, hi, rfl⟩ := List.getElem_of_mem hc
    have a0 := h0 i hi
    have a1 := h1 i hi
    have a2 := hx i hi
    rw [getD_at _ _ _ hi] at a0 a1 a2
    simp only [chgB, List.mem_append, List.mem_singleton] at h
    rcases h with ((rfl | h) | h) | h
    · omega
    · exact num4_lt _ x h
    · exact num4_lt _ x h
    · exact a2 x h
def EncRel (cs : List Chg) (w : World) (v i : Value) (wr : World) : Prop :=
  ∃ k : Nat, k ≤ cs.length ∧ i = .int .i64 k ∧ Below w.heap.size w wr ∧ wr.ownsRow w.heap.size 5 1 v (bodyTo cs k).length (bys (bodyTo cs k))

theorem encode_wrong (A : Option Addr) (c : Nat) (cs : List Chg) (w : World) (hB : Chs w A cs) (hl : cs.length ≤ maxLen) (hr : rightC cs = false) :
    Calls Try.prog 9 #[.slice A cs.length c] w fun e w' => e = .returned (.tuple #[.slice none 0 0, .int .i64 3]) ∧ Below w.heap.size w w' := by
  have R := right_any A c cs w hB hl
  rw [hr] at R
  have R := Lib.hid R
  clear hr
  go_enter Try.func9, Try.ntmps9
  go_wp2_with fail
  refine (Hid.out R).mono ?_
  rintro e w1 ⟨rfl, hb1⟩
  go_wp2
  go_ret2
  exact ⟨rfl, hb1⟩

set_option maxRecDepth 100000 in
set_option maxHeartbeats 2000000 in
theorem encode_right (A : Option Addr) (c : Nat) (cs : List Chg) (w : World) (hB : Chs w A cs) (hr : rightC cs = true) (hf : fewB cs = true) (hx : ∀ i, i < cs.length → ∀ x ∈ (cs.getD i default).data, x < 256) :
    Calls Try.prog 9 #[.slice A cs.length c] w fun e w' => ∃ v, e = .returned (.tuple #[v, .int .i64 0]) ∧ w'.ownsRow w.heap.size 5 1 v (enc cs).length (bys (enc cs)) ∧ Below w.heap.size w w' := by
  have hl8 := (few_data hf).1
  have R := right_any A c cs w hB (by unfold maxLen; omega)
  rw [hr] at R
  have HR := Lib.hid R
  have HRT := Lib.hid (right_at hr)
  have HF := Lib.hid (few_data hf).2
  have HL := Lib.hid (bodyTo_le cs hf)
  have HX := Lib.hid hx
  clear R hr hf hx
  go_enter Try.func9, Try.ntmps9
  go_wp2_with fail
  refine (HR.out).mono ?_
  rintro e w1 ⟨rfl, hb1⟩
  go_wp2_with fail
  refine (number2_any cs.length (by omega) _).mono ?_
  rintro e w2 ⟨v2, rfl, hown2, hb2⟩
  have HB2 := Lib.hid (below_then hb1 hb2)
  have HOWN2 := Lib.hid (own_base hown2 hb1.size)
  clear hb1 hb2 hown2
  go_wp2
  go_loopw [4, 16] (fun v i wr => EncRel cs w v i wr) (fun _ i _ => cs.length - (intOf i).toNat)
  case atStart => exact ⟨0, by omega, rfl, HB2.out, by simpa [bodyTo, num2, bys] using HOWN2.out⟩
  case round =>
    obtain ⟨k, hk, rfl, hb, hown⟩ := hrel
    obtain ⟨wo, rfl⟩ : ∃ wo : World, wo = wr := ⟨_, rfl⟩
    have hle := HL.out k hk
    by_cases hlt : k < cs.length
    · have HS := Lib.hid (bodyTo_succ cs k hlt)
      obtain ⟨b, off, rfl, hc⟩ := hB (by omega)
      obtain ⟨f0, f1, eo, P, cP, f2, eB⟩ := hc k hlt
      have e0 := (hb.cell (World.block_lt_of_cell? _ _ f0)).trans f0
      have e1 := (hb.cell (World.block_lt_of_cell? _ _ f1)).trans f1
      have e2 := (hb.cell (World.block_lt_of_cell? _ _ f2)).trans f2
      clear f0 f1 f2
      have hrt := HRT.out k hlt
      have hd60 := HF.out k hlt
      have bl : b < wo.heap.size := World.block_lt_of_cell? _ _ e0
      have HB := Lib.hid hb
      have HOWN := Lib.hid hown
      have HEB := Lib.hid eB
      clear hc hB hb hown eB HB2 HOWN2
      generalize cs.getD k default = x at *
      obtain ⟨bay, old, data⟩ := x
      dsimp only at *
      obtain ⟨hr1, hr2, hr3⟩ := hrt
      obtain ⟨y, rfl⟩ : ∃ y : Nat, bay = (y : Int) := ⟨bay.toNat, by omega⟩
      have hy : y < 256 := by omega
      generalize bodyTo cs k = X at *
      obtain ⟨n6, hn6⟩ : ∃ n : Nat, X.length + 1 + 4 + 4 + data.length = n := ⟨_, rfl⟩
      have hn6b : n6 ≤ 700 := by omega
      have hn6p : 0 < n6 := by omega
      have HN := Lib.hid hn6
      have g1 : decide ((4194304 : Int) < (n6 : Int) + 4) = false := by rw [decide_eq_false_iff_not]; omega
      clear hn6
      have S0 : Blk ((wo.alloc (.cells #[.int .i64 (y : Int), .int .u32 (old : Int), .slice P data.length cP] 45)).alloc (.cells #[.int .u8 (y : Int)] 5)) wo.heap.size 45 #[.int .i64 (y : Int), .int .u32 (old : Int), .slice P data.length cP] := (Blk.new rfl).alloc _
      have HS0 := Lib.hid S0
      clear S0
      go_wp2_with (at_builtin; refine wpList_append_byt rfl (.tmp 20) (.tmp 24) rfl w.heap.size _ X.length (bys X) rfl ((HOWN.out.alloc _).alloc _) _ 1 [y] rfl (byt1 hy (by simp)) (by simp; omega) (by have := HB.out.size; simp; omega) ?_; intro v1 w1 own1 hg1 _hv1; have kb1 := HS0.out.grown ((HOWN.out.alloc _).alloc _) hg1 (by decide); have q1 : w1.cell? ⟨wo.heap.size, 1, none⟩ = some (.int .u32 (old : Int)) := kb1.cell 1; have HK1 := Lib.hid kb1; clear kb1 _hv1)
      refine (num4B_any old eo _).mono ?_
      rintro e w2 ⟨A2, c2, rfl, hB2, hb2⟩
      have bel1 := app_below (below_alloc (below_alloc HB.out _) _) ((HOWN.out.alloc _).alloc _) hg1
      have kb2 := HK1.out.below hb2
      have q2 : w2.cell? ⟨wo.heap.size, 2, none⟩ = some (.slice P data.length cP) := kb2.cell 2
      have own2 := own_below own1 hb2
      have bel2 := below_then bel1 hb2
      have HB2' := Lib.hid bel2
      have HO2 := Lib.hid own2
      have HK2 := Lib.hid kb2
      clear bel1 kb2 own2 bel2 own1 hg1 hb2 q1
      go_wp2_with (at_builtin; refine wpList_append_byt rfl (.tmp 26) (.tmp 30) rfl w.heap.size _ (X.length + 1) (bys X ++ bys [y]) rfl HO2.out A2 c2 (num4 old) rfl hB2 (by simp [num4]; omega) HB2'.out.size ?_; intro v3 w3 own3 hg3 _hv3; have kb3 := HK2.out.grown HO2.out hg3 (by decide); have q3 : w3.cell? ⟨wo.heap.size, 2, none⟩ = some (.slice P data.length cP) := kb3.cell 2; have HK3 := Lib.hid kb3; clear kb3 _hv3)
      have hdl : data.length < 4294967296 := by omega
      refine (num4B_any data.length hdl _).mono ?_
      rintro e w4 ⟨A4, c4, rfl, hB4, hb4⟩
      have bel3 := app_below HB2'.out HO2.out hg3
      have kb4 := HK3.out.below hb4
      have q4 : w4.cell? ⟨wo.heap.size, 2, none⟩ = some (.slice P data.length cP) := kb4.cell 2
      have own4 := own_below own3 hb4
      have bel4 := below_then bel3 hb4
      have HB4' := Lib.hid bel4
      have HO4 := Lib.hid own4
      have HK4 := Lib.hid kb4
      clear bel3 kb4 own4 bel4 own3 hg3 hb4 q2 q3 hB2 HB2' HO2 HK2
      go_wp2_with (first | (at_builtin; refine wpList_append_byt rfl (.tmp 32) (.tmp 37) rfl w.heap.size _ (X.length + 1 + 4) (bys X ++ bys [y] ++ bys (num4 old)) rfl HO4.out A4 c4 (num4 data.length) rfl hB4 (by simp [num4]; omega) HB4'.out.size ?_; intro v5 w5 own5 hg5 _hv5; have kb5 := HK4.out.grown HO4.out hg5 (by decide); have q5 : w5.cell? ⟨wo.heap.size, 2, none⟩ = some (.slice P data.length cP) := kb5.cell 2; have HK5 := Lib.hid kb5; have HB5' := Lib.hid (app_below HB4'.out HO4.out hg5); have HO5 := Lib.hid own5; clear kb5 _hv5 own5 hg5 q4) | (at_builtin; refine wpList_append_byt rfl (.tmp 39) (.tmp 41) rfl w.heap.size _ (X.length + 1 + 4 + 4) (bys X ++ bys [y] ++ bys (num4 old) ++ bys (num4 data.length)) rfl HO5.out P cP data rfl (HEB.out.below HB5'.out) (by omega) HB5'.out.size ?_; intro v6 w6 own6 hg6 _hv6; rw [HN.out] at own6; obtain ⟨g6, cap6, rfl, _, _⟩ := own6.form (by omega); have HB6' := Lib.hid (app_below HB5'.out HO5.out hg6); have HO6 := Lib.hid own6; clear _hv6 own6 hg6 q5))
      refine ⟨⟨k + 1, by omega, by go_num, HB6'.out, ?_⟩, by simp [intOf]; omega⟩
      have h6 := HO6.out
      have en : (X ++ [(y : Int).toNat] ++ num4 old ++ num4 data.length ++ data).length = n6 := by rw [← HN.out]; simp only [List.length_append, List.length_cons, List.length_nil, num4]
      rw [HS.out, en]
      simpa only [bys_app, Int.toNat_natCast] using h6
    · obtain rfl : k = cs.length := by omega
      rw [bodyTo_len] at hown hle
      have hlt256 := body_lt cs (fun i hi => (HRT.out i hi).1) (fun i hi => (HRT.out i hi).2.1) HX.out
      obtain ⟨A5, c5, rfl, hB5, _⟩ := Byt.of_own hown hlt256
      have hs32 : sumOf (body cs) < 4294967296 := by unfold sumOf; omega
      have HB := Lib.hid hb
      have HOWN := Lib.hid hown
      have HSUM := Lib.hid (sum_any A5 c5 (body cs) wo hB5 (by unfold maxLen; omega))
      have HEN : Hid ((enc cs).length = (body cs).length + 4 ∧ bys (enc cs) = bys (body cs) ++ bys (num4 (sumOf (body cs)))) := ⟨by simp [enc, num4], by simp [enc, bys_app]⟩
      clear hb hown hlt256 HB2 HOWN2 hB5
      generalize hbd : body cs = X at *
      clear hbd
      generalize sumOf X = sm at *
      go_wp2_with fail
      refine (HSUM.out).mono ?_
      rintro e w1 ⟨rfl, rfl⟩
      go_wp2_with fail
      refine (num4B_any sm hs32 _).mono ?_
      rintro e w2 ⟨A2, c2, rfl, hB2, hb2⟩
      have HO2 := Lib.hid (own_below HOWN.out hb2)
      have HB2 := Lib.hid (below_then HB.out hb2)
      go_wp2_with (at_builtin; refine wpList_append_byt rfl (.tmp 48) (.tmp 52) rfl w.heap.size _ X.length (bys X) rfl HO2.out A2 c2 (num4 sm) rfl hB2 (by simp [num4]; omega) HB2.out.size ?_; intro v3 w3 own3 hg3 _hv3; have HB3 := Lib.hid (app_below HB2.out HO2.out hg3); have HO3 := Lib.hid own3; clear _hv3 own3 hg3)
      go_ret2
      refine ⟨_, rfl, ?_, HB3.out⟩
      rw [HEN.out.1, HEN.out.2]
      exact HO3.out
end Go.Proofs.Ytpfdgcdhcciilaa
