/- DeltaCuts: walk. -/
import Derived.Test.YtpfdgcdhcciilaaG11
namespace Go.Proofs.Ytpfdgcdhcciilaa
open Go.RowKit

/-- Decode, the error's number alone -/
theorem decode_code (A : Option Addr) (n c : Nat) (xs : List Nat) (w : World) (hB : Byt w A xs) (hn : n = xs.length) (hl : xs.length ≤ 700) (hcap : xs.length ≤ c) (k : Int) (hk : (dec xs).2 = k) :
    Calls Try.prog 12 #[.slice A n c] w fun e w' => ∃ A' n' c', e = .returned (.tuple #[.slice A' n' c', .int .i64 k]) ∧ Below w.heap.size w w' := by
  subst hn hk
  refine (decode_chs A c xs w hB hl hcap).mono ?_
  rintro e w' ⟨A', c', rfl, _, hb⟩
  exact ⟨A', _, c', rfl, hb⟩
theorem Byt.set0 {w : World} {b off k x : Nat} {xs : List Nat} (h : Byt w (some ⟨b, off, none⟩) xs) (hk : k < xs.length) (hx : x < 256) : Byt (w.setCell ⟨b, off + k, none⟩ (.int .u8 (x : Int))) (some ⟨b, off, none⟩) (xs.set k x) := by
  refine ⟨fun y hy => ?_, fun _ => ?_⟩
  · rcases List.mem_or_eq_of_mem_set hy with h' | rfl
    · exact h.1 y h'
    · exact hx
  · obtain ⟨b', off', e, hc⟩ := h.2 (by omega)
    injection e with e
    injection e with e1 e2
    subst e1 e2
    refine ⟨b, off, rfl, fun i hi => ?_⟩
    rw [List.length_set] at hi
    by_cases hik : i = k
    · subst hik
      rw [World.cell?_setCell_same _ _ _ (hc i hi)]
      simp [List.getD, hi]
    · rw [World.cell?_setCell_other _ _ _ _ (by simp), hc i hi]
      simp [List.getD, List.getElem?_set_ne (Ne.symm hik)]
theorem own_cap {w : World} {base : Nat} {e : TypeId} {size n c : Nat} {A : Option Addr} {xs : List Value} (h : w.ownsRow base e size (.slice A n c) n xs) : n ≤ c := by
  rcases h.2 with ⟨h1, h0⟩ | ⟨g', cap, cur, h1, _, hh, hnc, _⟩
  · omega
  · injection h1 with _ _ h1
    omega
theorem own_cell {w : World} {base g c k : Nat} {xs : List Nat} (h : w.ownsRow base 5 1 (.slice (some ⟨g, 0, none⟩) xs.length c) xs.length (bys xs)) (hk : k < xs.length) (hx : ∀ x ∈ xs, x < 256) :
    w.cell? ⟨g, k, none⟩ = some (.int .u8 ((xs.getD k 0 : Nat) : Int)) ∧ w.frozen? ⟨g, k, none⟩ = false ∧ Byt w (some ⟨g, 0, none⟩) xs := by
  have hB : Byt w (some ⟨g, 0, none⟩) xs := by
    obtain ⟨A, c', e, hB, _⟩ := Byt.of_own h hx
    injection e with e1
    subst e1
    exact hB
  refine ⟨?_, ?_, hB⟩
  · obtain ⟨b, off, e, hc⟩ := hB.2 (by omega)
    injection e with e
    injection e with e1 e2
    subst e1 e2
    have := hc k hk
    rwa [Nat.zero_add] at this
  · rcases h.2 with ⟨h1, _⟩ | ⟨g', cap, cur, h1, _, hh, _⟩
    · cases h1
    · injection h1 with h1
      injection h1 with h1
      injection h1 with h1
      subst h1
      simp [World.frozen?, hh]
theorem xor_self_lt (a m : Nat) (ha : a < 256) (hm : m < 256) : a ^^^ m < 256 := Nat.xor_lt_two_pow (n := 8) (by omega) (by omega)
theorem xor_eq_self {a m : Nat} (h : a ^^^ m = a) : m = 0 := by
  have := congrArg (a ^^^ ·) h
  simpa [← Nat.xor_assoc] using this
theorem set_self (xs : List Nat) (k : Nat) (hk : k < xs.length) : xs.set k (xs.getD k 0) = xs := by
  rw [getD_at _ _ _ hk]
  exact List.set_getElem_self hk

set_option maxRecDepth 100000 in
set_option maxHeartbeats 1000000 in
theorem cuts_great (A : Option Addr) (c : Nat) (cs : List Chg) (at' m more : Nat) (w : World) (hC : Chs w A cs) (hl : cs.length ≤ maxLen) (hf : fewB cs = false) :
    Calls Try.prog 5 #[.slice A cs.length c, .int .u16 (at' : Int), .int .u8 (m : Int), .int .u8 (more : Int)] w fun e w' => e = .returned (.bool true) ∧ Below w.heap.size w w' := by
  have GR : Hid (∀ W, Below w.heap.size w W → Calls Try.prog 7 #[.slice A cs.length c] W fun e w' => e = .returned (.bool true) ∧ W = w') := fun W h => by
    have := great_any A c cs W (hC.below h) hl
    rw [hf] at this
    exact this
  clear hC hf
  go_enter Try.func5, Try.ntmps5
  go_wp2_with fail
  refine (awake_any _).mono ?_
  rintro e w1 ⟨rfl, hb1⟩
  have HB1 := Lib.hid hb1
  clear hb1
  go_wp2_with fail
  refine (GR.out _ HB1.out).mono ?_
  rintro e w2 ⟨rfl, rfl⟩
  go_wp2
  go_ret
  exact ⟨rfl, HB1.out⟩

set_option maxRecDepth 100000 in
set_option maxHeartbeats 2000000 in
theorem cuts_wrong (A : Option Addr) (c : Nat) (cs : List Chg) (at' m more : Nat) (w : World) (hC : Chs w A cs) (hl : cs.length ≤ maxLen) (hf : fewB cs = true) (hr : rightC cs = false) :
    Calls Try.prog 5 #[.slice A cs.length c, .int .u16 (at' : Int), .int .u8 (m : Int), .int .u8 (more : Int)] w fun e w' => e = .returned (.bool true) ∧ Below w.heap.size w w' := by
  have hl8 := (few_data hf).1
  have GR : Hid (∀ W, Below w.heap.size w W → Calls Try.prog 7 #[.slice A cs.length c] W fun e w' => e = .returned (.bool false) ∧ W = w') := fun W h => by
    have := great_any A c cs W (hC.below h) hl
    rw [hf] at this
    exact this
  have GV : Hid (∀ W, Below w.heap.size w W → Calls Try.prog 10 #[.slice A cs.length c] W fun e w' => ∃ A' c', e = .returned (.slice A' cs.length c') ∧ Chs w' A' cs ∧ Below W.heap.size W w') := fun W h => given_chs A c cs W (hC.below h) (by omega)
  have EN : Hid (∀ A c W, Chs W A cs → Calls Try.prog 9 #[.slice A cs.length c] W fun e w' => e = .returned (.tuple #[.slice none 0 0, .int .i64 3]) ∧ Below W.heap.size W w') := fun A c W h => encode_wrong A c cs W h hl hr
  clear hC hf hr
  go_enter Try.func5, Try.ntmps5
  go_wp2_with fail
  refine (awake_any _).mono ?_
  rintro e w1 ⟨rfl, hb1⟩
  have HB1 := Lib.hid hb1
  clear hb1
  go_wp2_with fail
  refine (GR.out _ HB1.out).mono ?_
  rintro e w2 ⟨rfl, rfl⟩
  go_wp2_with fail
  refine (GV.out _ HB1.out).mono ?_
  rintro e w3 ⟨A3, c3, rfl, hc3, hb3⟩
  have HC3 := Lib.hid hc3
  have HB3 := Lib.hid (below_then HB1.out hb3)
  clear hc3 hb3
  go_wp2_with fail
  refine (EN.out _ _ _ HC3.out).mono ?_
  rintro e w4 ⟨rfl, hb4⟩
  have HB4 := Lib.hid (below_then HB3.out hb4)
  clear hb4
  go_wp2
  go_ret
  exact ⟨rfl, HB4.out⟩

set_option maxRecDepth 100000 in
set_option maxHeartbeats 4000000 in
theorem cuts_right (A : Option Addr) (c : Nat) (cs : List Chg) (at' m more : Nat) (w : World) (hC : Chs w A cs) (hl : cs.length ≤ maxLen) (hf : fewB cs = true) (hr : rightC cs = true) (hx : ∀ i, i < cs.length → ∀ x ∈ (cs.getD i default).data, x < 256)
    (ha : at' < 65536) (hm : m < 256) (hmo : more < 256) :
    Calls Try.prog 5 #[.slice A cs.length c, .int .u16 (at' : Int), .int .u8 (m : Int), .int .u8 (more : Int)] w fun e w' => e = .returned (.bool true) ∧ Below w.heap.size w w' := by
  have hl8 := (few_data hf).1
  have GR : Hid (∀ W, Below w.heap.size w W → Calls Try.prog 7 #[.slice A cs.length c] W fun e w' => e = .returned (.bool false) ∧ W = w') := fun W h => by
    have := great_any A c cs W (hC.below h) hl
    rw [hf] at this
    exact this
  have GV : Hid (∀ W, Below w.heap.size w W → Calls Try.prog 10 #[.slice A cs.length c] W fun e w' => ∃ A' c', e = .returned (.slice A' cs.length c') ∧ Chs w' A' cs ∧ Below W.heap.size W w') := fun W h => given_chs A c cs W (hC.below h) (by omega)
  have EN : Hid (∀ A c W, Chs W A cs → Calls Try.prog 9 #[.slice A cs.length c] W fun e w' => ∃ A' c', e = .returned (.tuple #[.slice A' (enc cs).length c', .int .i64 0]) ∧ Byt w' A' (enc cs) ∧ (enc cs).length ≤ c' ∧ Below W.heap.size W w') := fun A c W h => encode_byt A c cs W h hr hf hx
  have hel := enc_len hf
  have hgood := good_of hr hf (chs_old hC)
  have hlt := enc_lt hr hx
  have hpos : 6 ≤ (enc cs).length := by simp only [enc, body, List.length_append, num2_len, num4_len]; omega
  have hk : at' % (enc cs).length < (enc cs).length := Nat.mod_lt _ (by omega)
  have hcut := dec_cut cs hgood (by omega) (at' % (enc cs).length) hk
  have hmore := dec_more cs hgood (by omega) more
  have henc := dec_enc cs hgood (by omega) hr
  have hxk : (enc cs).getD (at' % (enc cs).length) 0 < 256 := by
    rw [getD_at _ _ _ hk]
    exact hlt _ (List.getElem_mem hk)
  have HSP : Hid (∃ k : Int, (dec ((enc cs).set (at' % (enc cs).length) ((enc cs).getD (at' % (enc cs).length) 0 ^^^ m))).2 = k ∧ ((k == 0) == ((m : Int) == 0)) = true) := by
    refine ⟨_, rfl, ?_⟩
    by_cases h0 : m = 0
    · subst h0
      rw [Nat.xor_zero, set_self _ _ hk, henc]
      rfl
    · have hne : (enc cs).getD (at' % (enc cs).length) 0 ≠ (enc cs).getD (at' % (enc cs).length) 0 ^^^ m := fun e => h0 (xor_eq_self e.symm)
      have := dec_spoilt (enc cs) _ _ hlt hk (xor_self_lt _ _ hxk hm) hne (by rw [henc])
      have hm0 : ((m : Int) == 0) = false := by simp; omega
      rw [hm0]
      simpa using this
  have hmod : (at' : Int) % ((enc cs).length : Int) = ((at' % (enc cs).length : Nat) : Int) := by omega
  have HCUT := Lib.hid hcut
  have HMORE := Lib.hid hmore
  have HLT := Lib.hid hlt
  clear hC hf hr hx hgood hcut hmore henc hlt
  generalize enc cs = X at *
  generalize at' % X.length = k at *
  have HMOD := Lib.hid hmod
  clear hmod
  generalize hy : X.getD k 0 = y at *
  have HY := Lib.hid hy
  clear hy
  go_enter Try.func5, Try.ntmps5
  go_wp2_with fail
  refine (awake_any _).mono ?_
  rintro e w1 ⟨rfl, hb1⟩
  have HB1 := Lib.hid hb1
  clear hb1
  go_wp2_with fail
  refine (GR.out _ HB1.out).mono ?_
  rintro e w2 ⟨rfl, rfl⟩
  go_wp2_with fail
  refine (GV.out _ HB1.out).mono ?_
  rintro e w3 ⟨A3, c3, rfl, hc3, hb3⟩
  have HC3 := Lib.hid hc3
  have HB3 := Lib.hid (below_then HB1.out hb3)
  clear hc3 hb3
  go_wp2_with fail
  refine (EN.out _ _ _ HC3.out).mono ?_
  rintro e w4 ⟨A4, c4, rfl, hbt4, hc4, hb4⟩
  obtain ⟨b, off, rfl, _⟩ := hbt4.2 (by omega)
  have HB4 := Lib.hid (below_then HB3.out hb4)
  have BT4 := Lib.hid hbt4
  clear hb4 hbt4
  have hmod := HMOD.out
  have j1 : (0 : Int) ≤ (k : Int) := by omega
  have j2 : (k : Int) ≤ (X.length : Int) := by omega
  have j3 : (k : Int) ≤ (c4 : Int) := by omega
  go_wp2_with fail
  refine (decode_code _ k c4 (X.take k) w4 (BT4.out.take k) (by simp; omega) (by simp; omega) (by simp; omega) 4 (by rw [HCUT.out])).mono ?_
  rintro e w5 ⟨A5, n5, c5, rfl, hb5⟩
  have HB5 := Lib.hid (below_then HB4.out hb5)
  have BT5 := Lib.hid (BT4.out.below hb5)
  clear hb5 hmod
  go_wp2_with (first
    | (at_builtin; refine wpList_append_byt rfl (.tmp 44) (.tmp 45) rfl w5.heap.size _ 0 [] rfl (own_empty (Nat.le_refl _)) _ c4 X rfl (BT5.out.below (by (repeat (first | with_reducible exact Below.refl _ _ | with_reducible assumption | with_reducible refine below_drewN ?_ _ | with_reducible refine Below.drew ?_ | with_reducible refine Below.alloc ?_ (by first | exact Nat.le_refl _ | (simp; done) | (simp; omega) | omega) _ | with_reducible refine Below.setCell ?_ (by first | exact Nat.le_refl _ | (simp; done) | (simp; omega) | omega) _ | with_reducible refine Below.trans ?_ (Below.mono (by with_reducible assumption) (by first | exact Nat.le_refl _ | (simp; done) | (simp; omega) | omega)))))) (by omega) (by simp) ?_; intro v6 w6 own6 hg6 _hv6; have HB6 := Lib.hid (app_below (w0 := w5) (below_alloc (Below.refl _ _) _) (own_empty (Nat.le_refl _)) hg6); have HO6 := Lib.hid own6; clear own6 hg6 _hv6)
    | (at_builtin; refine wpList_append_byt rfl (.tmp 46) (.tmp 48) rfl w5.heap.size _ (0 + X.length) ([] ++ bys X) rfl (HO6.out.alloc _) _ 1 [more] rfl (byt1 hmo (by simp)) (by simp; omega) (by have := HB6.out.size; simp; omega) ?_; intro v7 w7 own7 hg7 _hv7; have HB7 := Lib.hid (app_below (w0 := w5) (below_alloc HB6.out _) (HO6.out.alloc _) hg7); have own7' : w7.ownsRow w5.heap.size 5 1 v7 (X ++ [more]).length (bys (X ++ [more])) := (by simpa [bys_app] using own7); obtain ⟨A7, c7, rfl, hB7, hc7, _⟩ := Byt.of_own own7' (by intro x hx; simp at hx; exact hx.elim (HLT.out x) (fun e => e ▸ hmo)); have BT7 := Lib.hid hB7; have LC7 := Lib.hid hc7; clear own7 own7' hg7 _hv7 hB7 hc7))
  refine (decode_code _ (X.length + 1) c7 (X ++ [more]) w7 BT7.out (by simp) (by simp; omega) LC7.out 5 (by rw [HMORE.out])).mono ?_
  rintro e w8 ⟨A8, n8, c8, rfl, hb8⟩
  have HB8 := Lib.hid (below_then HB7.out hb8)
  have BT8 := Lib.hid (BT5.out.below HB8.out)
  have HBA := Lib.hid (below_then HB5.out HB8.out)
  clear hb8
  have hxor : bits .xor .u8 (y : Int) (m : Int) = ((y ^^^ m : Nat) : Int) := u8_xor_nat y m hxk hm
  have j4 : (k : Int) < (X.length : Int) := by omega
  obtain ⟨kk, HK1, hk2⟩ := HSP.out
  have HK1 := Lib.hid HK1
  clear HSP
  have hmod := HMOD.out
  go_wp2_with (at_builtin; refine wpList_append_byt rfl (.tmp 53) (.tmp 54) rfl w8.heap.size _ 0 [] rfl (own_empty (Nat.le_refl _)) _ c4 X rfl (BT8.out.below (by (repeat (first | with_reducible exact Below.refl _ _ | with_reducible assumption | with_reducible refine below_drewN ?_ _ | with_reducible refine Below.drew ?_ | with_reducible refine Below.alloc ?_ (by first | exact Nat.le_refl _ | (simp; done) | (simp; omega) | omega) _ | with_reducible refine Below.setCell ?_ (by first | exact Nat.le_refl _ | (simp; done) | (simp; omega) | omega) _ | with_reducible refine Below.trans ?_ (Below.mono (by with_reducible assumption) (by first | exact Nat.le_refl _ | (simp; done) | (simp; omega) | omega)))))) (by omega) (by simp) ?_; intro v9 w9 own9 hg9 _hv9; have HB9 := Lib.hid (app_below (w0 := w8) (below_alloc (Below.refl _ _) _) (own_empty (Nat.le_refl _)) hg9); have own9' : w9.ownsRow w8.heap.size 5 1 v9 X.length (bys X) := (by simpa using own9); obtain ⟨g9, c9, rfl, hg9b, _⟩ := own9'.form (by omega); obtain ⟨k1, k2, k3⟩ := own_cell own9' hk HLT.out; rw [HY.out] at k1; have BT9 := Lib.hid k3; have LC9 := Lib.hid (own_cap own9'); have G9 := Lib.hid hg9b; clear own9 own9' hg9 _hv9 k3 hg9b)
  have BT10 : Hid (Byt (w9.setCell ⟨g9, k, none⟩ (.int .u8 ((y ^^^ m : Nat) : Int))) (some ⟨g9, 0, none⟩) (X.set k (y ^^^ m))) := by
    have := BT9.out.set0 hk (xor_self_lt y m hxk hm)
    rwa [Nat.zero_add] at this
  have HB10 : Hid (Below w.heap.size w (w9.setCell ⟨g9, k, none⟩ (.int .u8 ((y ^^^ m : Nat) : Int)))) := by
    refine Below.setCell (below_then HBA.out HB9.out) ?_ _
    exact Nat.le_trans HBA.out.size G9.out
  refine (decode_code _ X.length c9 (X.set k (y ^^^ m)) _ BT10.out (by simp) (by simp; omega) (by simpa using LC9.out) kk HK1.out).mono ?_
  rintro e w11 ⟨A11, n11, c11, rfl, hb11⟩
  have HB11 := Lib.hid (below_then HB10.out hb11)
  clear hb11 k1 k2 hxor hmod
  go_wp2
  go_ret
  exact ⟨rfl, HB11.out⟩
theorem cuts_any (A : Option Addr) (c : Nat) (cs : List Chg) (at' m more : Nat) (w : World) (hC : Chs w A cs) (hl : cs.length ≤ maxLen) (hx : ∀ i, i < cs.length → ∀ x ∈ (cs.getD i default).data, x < 256)
    (ha : at' < 65536) (hm : m < 256) (hmo : more < 256) :
    Calls Try.prog 5 #[.slice A cs.length c, .int .u16 (at' : Int), .int .u8 (m : Int), .int .u8 (more : Int)] w fun e w' => e = .returned (.bool true) ∧ Below w.heap.size w w' := by
  cases hf : fewB cs
  · exact cuts_great A c cs at' m more w hC hl hf
  · cases hr : rightC cs
    · exact cuts_wrong A c cs at' m more w hC hl hf hr
    · exact cuts_right A c cs at' m more w hC hl hf hr hx ha hm hmo
end Go.Proofs.Ytpfdgcdhcciilaa
