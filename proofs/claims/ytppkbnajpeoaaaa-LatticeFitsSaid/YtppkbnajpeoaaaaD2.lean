/- LatticeBox: plain facts and the law's walk. -/
import Derived.Test.YtppkbnajpeoaaaaD1
import Derived.Test.YtppkbnajpeoaaaaP2
namespace Go.Proofs.Ytppkbnajpeoaaaa
open Go.RowKit

set_option maxHeartbeats 400000 in
theorem box_nil (A : Option Addr) (cap : Nat) (w : World) :
    Calls Try.prog 20 #[.slice A 0 cap] w fun e w' => e = .returned (.tuple #[.agg #[.int .i64 0, .int .i64 0, .int .i64 0], .agg #[.int .i64 0, .int .i64 0, .int .i64 0]]) ∧ Below w.heap.size w w' := by
  go_enter Try.func20, Try.ntmps20
  go_wp2
  refine wp_loop_rounds 1 ?_
  rw [rounds_succ]
  go_wp2
  go_region
  go_wp2
  exact bodyPost_ret (v := .tuple #[.agg #[.int .i64 0, .int .i64 0, .int .i64 0], .agg #[.int .i64 0, .int .i64 0, .int .i64 0]]) (by unfold results; simp only [Try.results20]; go_simp) rfl ⟨rfl, by (repeat (first | with_reducible exact Below.refl _ _ | with_reducible assumption | with_reducible refine below_drewN ?_ _ | with_reducible refine Below.drew ?_ | with_reducible refine Below.alloc ?_ (by first | exact Nat.le_refl _ | (simp; done) | (simp; omega) | omega) _ | with_reducible refine Below.setCell ?_ (by first | exact Nat.le_refl _ | (simp; done) | (simp; omega) | omega) _ | with_reducible refine Below.trans ?_ (Below.mono (by with_reducible assumption) (by first | exact Nat.le_refl _ | (simp; done) | (simp; omega) | omega))))⟩

theorem lo_le (f : Nat → Nat → Int) (k : Nat) : ∀ n i, i < n → loTo f k n ≤ f i k := by
  intro n
  induction n with
  | zero => intro i h; omega
  | succ n ih =>
    intro i h
    unfold loTo
    by_cases hi : i = n
    · subst hi
      split <;> omega
    · have := ih i (by omega)
      split
      · omega
      · exact this
theorem le_hi (f : Nat → Nat → Int) (k : Nat) : ∀ n i, i < n → f i k ≤ hiTo f k n := by
  intro n
  induction n with
  | zero => intro i h; omega
  | succ n ih =>
    intro i h
    unfold hiTo
    by_cases hi : i = n
    · subst hi
      split <;> omega
    · have := ih i (by omega)
      split
      · omega
      · exact this
/-- does one of the first points stand at the side? -/
def anyTo (f : Nat → Nat → Int) (k : Nat) (x : Int) : Nat → Bool
  | 0 => false
  | n + 1 => anyTo f k x n || f n k == x
theorem any_lo (f : Nat → Nat → Int) (k : Nat) : ∀ n, 0 < n → anyTo f k (loTo f k n) n = true := by
  intro n
  induction n with
  | zero => intro h; omega
  | succ n ih =>
    intro _
    unfold loTo
    by_cases h : n = 0 ∨ f n k < loTo f k n
    · rw [if_pos h]; simp [anyTo]
    · rw [if_neg h]
      simp [anyTo, ih (by omega)]
theorem any_hi (f : Nat → Nat → Int) (k : Nat) : ∀ n, 0 < n → anyTo f k (hiTo f k n) n = true := by
  intro n
  induction n with
  | zero => intro h; omega
  | succ n ih =>
    intro _
    unfold hiTo
    by_cases h : n = 0 ∨ hiTo f k n < f n k
    · rw [if_pos h]; simp [anyTo]
    · rw [if_neg h]
      simp [anyTo, ih (by omega)]
def BoxLRel (f : Nat → Nat → Int) (w : World) (B len : Nat) (i : Value) (wr : World) : Prop :=
  (i = .int .i64 0 ∨ i = .int .i64 1 ∨ i = .int .i64 2 ∨ i = .int .i64 3) ∧ B + 1 < wr.heap.size ∧ Below w.heap.size w wr ∧ Rw wr B (i3 (loTo f 0 len) (loTo f 1 len) (loTo f 2 len)) ∧ Rw wr (B + 1) (i3 (hiTo f 0 len) (hiTo f 1 len) (hiTo f 2 len))
def BoxLIn (f : Nat → Nat → Int) (k len : Nat) (wo : World) (a b i : Value) (wr : World) : Prop :=
  ∃ n m : Nat, wr = wo.drewN n ∧ m ≤ len ∧ i = .int .i64 m ∧ a = .bool (anyTo f k (loTo f k len) m) ∧ b = .bool (anyTo f k (hiTo f k len) m)

set_option maxHeartbeats 4000000 in
theorem boxL_some (b off len cap : Nat) (f : Nat → Nat → Int) (w : World) (hl : len ≤ 40) (hcap : len ≤ cap) (hpos : 0 < len)
   (hc : ∀ i k, i < len → k < 3 → w.cell? ⟨b, off + i * 3 + k, none⟩ = some (.int .i64 (f i k))) :
    Calls Try.prog 9 #[.slice (some ⟨b, off, none⟩) len cap] w fun e w' => e = .returned (.bool true) ∧ Below w.heap.size w w' := by
  have HC := Lib.hid hc
  clear hc
  have hp0 : ((len : Int) == 0) = false := by simp; omega
  go_enter Try.func9, Try.ntmps9
  go_wp2_with fail
  refine (awake_any _).mono ?_
  rintro e w1 ⟨rfl, hb1⟩
  go_wp2_with fail
  have X := box_some b off len cap f w1 hl hcap (fun i k hi hk => (hb1.cell (World.block_lt_of_cell? _ _ (HC.out i k hi hk))).trans (HC.out i k hi hk))
  refine X.mono ?_
  clear X
  rintro e w2 ⟨rfl, hb2⟩
  have hb : Below w.heap.size w w2 := below_then hb1 hb2
  have HB := Lib.hid hb
  clear hb1 hb2 hb
  go_wp2
  go_loopw [5] (fun i wr => BoxLRel f w w2.heap.size len i wr) (fun i _ => 3 - (intOf i).toNat)
  case atStart =>
    have hb := HB.out
    refine ⟨.inl rfl, by simp, (hb.alloc hb.size _).alloc (by have := hb.size; simp; omega) _, (Rw.new' (i3 (loTo f 0 len) (loTo f 1 len) (loTo f 2 len)) rfl).alloc _, Rw.new' (i3 (hiTo f 0 len) (hiTo f 1 len) (hiTo f 2 len)) (by first | (simp; done) | (simp; omega) | omega)⟩
  case round =>
    clear HB
    obtain ⟨wo, rfl⟩ : ∃ wo : World, wo = wr := ⟨_, rfl⟩
    obtain ⟨hi, sz, hb, rl, rh⟩ := hrel
    rcases hi with rfl | rfl | rfl | rfl
    · have cl : wo.cell? ⟨w2.heap.size, 0, none⟩ = some (.int .i64 (loTo f 0 len)) := rl.cell 0
      have ch : wo.cell? ⟨w2.heap.size + 1, 0, none⟩ = some (.int .i64 (hiTo f 0 len)) := rh.cell 0
      have AL := Lib.hid (any_lo f 0 len hpos)
      have AH := Lib.hid (any_hi f 0 len hpos)
      have LE := Lib.hid (lo_le f 0 len)
      have HE := Lib.hid (le_hi f 0 len)
      have HB := Lib.hid hb
      have HL := Lib.hid rl
      have HH := Lib.hid rh
      clear hb rl rh
      obtain ⟨l, hl2⟩ : ∃ l, l = loTo f 0 len := ⟨_, rfl⟩
      obtain ⟨g, hg⟩ : ∃ g, g = hiTo f 0 len := ⟨_, rfl⟩
      rw [← hl2] at cl AL LE
      rw [← hg] at ch AH HE
      have EL := Lib.hid hl2
      have EG := Lib.hid hg
      clear hl2 hg
      go_wp2
      go_loopw [6, 7, 8] (fun a b i wr => ∃ n m : Nat, wr = wo.drewN n ∧ m ≤ len ∧ i = .int .i64 m ∧ a = .bool (anyTo f 0 l m) ∧ b = .bool (anyTo f 0 g m)) (fun _ _ i _ => len - (intOf i).toNat)
      case atStart => exact ⟨0, 0, rfl, by omega, rfl, rfl, rfl⟩
      case round =>
      obtain ⟨n, m, rfl, hm, rfl, rfl, rfl⟩ := hrel
      by_cases hlt : m < len
      · have e0 := HC.out m 0 hlt (by omega)
        have k0 : wo.cell? ⟨b, off + m * 3, none⟩ = some (.int .i64 (f m 0)) := (HB.out.cell (World.block_lt_of_cell? _ _ e0)).trans e0
        clear e0
        have v1 := LE.out m hlt
        have v2 := HE.out m hlt
        have S1 : Hid (anyTo f 0 l (m + 1) = (anyTo f 0 l m || f m 0 == l)) := rfl
        have S2 : Hid (anyTo f 0 g (m + 1) = (anyTo f 0 g m || f m 0 == g)) := rfl
        generalize anyTo f 0 l m = a at *
        generalize anyTo f 0 g m = c at *
        generalize f m 0 = x at *
        have d1 : decide (x < l) = false := by simp; omega
        have d2 : decide (g < x) = false := by simp; omega
        cases a <;> cases c <;> cases hx : (x == l) <;> cases hy : (x == g)
        all_goals
          go_wp2
          go_quiet (fail)
          go_wp2
          go_quiet (fail)
          go_wp2
          refine ⟨⟨_, m + 1, rfl, by omega, by go_num, by rw [S1.out]; first | rfl | (rw [hx]; rfl), by rw [S2.out]; first | rfl | (rw [hy]; rfl)⟩, by simp [intOf]; omega⟩
      · obtain rfl : m = len := by omega
        have AL2 := AL.out
        have AH2 := AH.out
        rw [AL2, AH2]
        clear AL2 AH2
        go_wp2
        refine ⟨⟨by first | exact .inr (.inl rfl) | exact .inr (.inr (.inl rfl)) | exact .inr (.inr (.inr rfl)), sz, below_drewN HB.out _, HL.out.drewN _, HH.out.drewN _⟩, by simp [intOf]⟩
    · have cl : wo.cell? ⟨w2.heap.size, 1, none⟩ = some (.int .i64 (loTo f 1 len)) := rl.cell 1
      have ch : wo.cell? ⟨w2.heap.size + 1, 1, none⟩ = some (.int .i64 (hiTo f 1 len)) := rh.cell 1
      have AL := Lib.hid (any_lo f 1 len hpos)
      have AH := Lib.hid (any_hi f 1 len hpos)
      have LE := Lib.hid (lo_le f 1 len)
      have HE := Lib.hid (le_hi f 1 len)
      have HB := Lib.hid hb
      have HL := Lib.hid rl
      have HH := Lib.hid rh
      clear hb rl rh
      obtain ⟨l, hl2⟩ : ∃ l, l = loTo f 1 len := ⟨_, rfl⟩
      obtain ⟨g, hg⟩ : ∃ g, g = hiTo f 1 len := ⟨_, rfl⟩
      rw [← hl2] at cl AL LE
      rw [← hg] at ch AH HE
      have EL := Lib.hid hl2
      have EG := Lib.hid hg
      clear hl2 hg
      go_wp2
      go_loopw [6, 7, 8] (fun a b i wr => ∃ n m : Nat, wr = wo.drewN n ∧ m ≤ len ∧ i = .int .i64 m ∧ a = .bool (anyTo f 1 l m) ∧ b = .bool (anyTo f 1 g m)) (fun _ _ i _ => len - (intOf i).toNat)
      case atStart => exact ⟨0, 0, rfl, by omega, rfl, rfl, rfl⟩
      case round =>
      obtain ⟨n, m, rfl, hm, rfl, rfl, rfl⟩ := hrel
      by_cases hlt : m < len
      · have e0 := HC.out m 1 hlt (by omega)
        have k0 : wo.cell? ⟨b, off + m * 3 + 1, none⟩ = some (.int .i64 (f m 1)) := (HB.out.cell (World.block_lt_of_cell? _ _ e0)).trans e0
        clear e0
        have v1 := LE.out m hlt
        have v2 := HE.out m hlt
        have S1 : Hid (anyTo f 1 l (m + 1) = (anyTo f 1 l m || f m 1 == l)) := rfl
        have S2 : Hid (anyTo f 1 g (m + 1) = (anyTo f 1 g m || f m 1 == g)) := rfl
        generalize anyTo f 1 l m = a at *
        generalize anyTo f 1 g m = c at *
        generalize f m 1 = x at *
        have d1 : decide (x < l) = false := by simp; omega
        have d2 : decide (g < x) = false := by simp; omega
        cases a <;> cases c <;> cases hx : (x == l) <;> cases hy : (x == g)
        all_goals
          go_wp2
          go_quiet (fail)
          go_wp2
          go_quiet (fail)
          go_wp2
          refine ⟨⟨_, m + 1, rfl, by omega, by go_num, by rw [S1.out]; first | rfl | (rw [hx]; rfl), by rw [S2.out]; first | rfl | (rw [hy]; rfl)⟩, by simp [intOf]; omega⟩
      · obtain rfl : m = len := by omega
        have AL2 := AL.out
        have AH2 := AH.out
        rw [AL2, AH2]
        clear AL2 AH2
        go_wp2
        refine ⟨⟨by first | exact .inr (.inl rfl) | exact .inr (.inr (.inl rfl)) | exact .inr (.inr (.inr rfl)), sz, below_drewN HB.out _, HL.out.drewN _, HH.out.drewN _⟩, by simp [intOf]⟩
    · have cl : wo.cell? ⟨w2.heap.size, 2, none⟩ = some (.int .i64 (loTo f 2 len)) := rl.cell 2
      have ch : wo.cell? ⟨w2.heap.size + 1, 2, none⟩ = some (.int .i64 (hiTo f 2 len)) := rh.cell 2
      have AL := Lib.hid (any_lo f 2 len hpos)
      have AH := Lib.hid (any_hi f 2 len hpos)
      have LE := Lib.hid (lo_le f 2 len)
      have HE := Lib.hid (le_hi f 2 len)
      have HB := Lib.hid hb
      have HL := Lib.hid rl
      have HH := Lib.hid rh
      clear hb rl rh
      obtain ⟨l, hl2⟩ : ∃ l, l = loTo f 2 len := ⟨_, rfl⟩
      obtain ⟨g, hg⟩ : ∃ g, g = hiTo f 2 len := ⟨_, rfl⟩
      rw [← hl2] at cl AL LE
      rw [← hg] at ch AH HE
      have EL := Lib.hid hl2
      have EG := Lib.hid hg
      clear hl2 hg
      go_wp2
      go_loopw [6, 7, 8] (fun a b i wr => ∃ n m : Nat, wr = wo.drewN n ∧ m ≤ len ∧ i = .int .i64 m ∧ a = .bool (anyTo f 2 l m) ∧ b = .bool (anyTo f 2 g m)) (fun _ _ i _ => len - (intOf i).toNat)
      case atStart => exact ⟨0, 0, rfl, by omega, rfl, rfl, rfl⟩
      case round =>
      obtain ⟨n, m, rfl, hm, rfl, rfl, rfl⟩ := hrel
      by_cases hlt : m < len
      · have e0 := HC.out m 2 hlt (by omega)
        have k0 : wo.cell? ⟨b, off + m * 3 + 2, none⟩ = some (.int .i64 (f m 2)) := (HB.out.cell (World.block_lt_of_cell? _ _ e0)).trans e0
        clear e0
        have v1 := LE.out m hlt
        have v2 := HE.out m hlt
        have S1 : Hid (anyTo f 2 l (m + 1) = (anyTo f 2 l m || f m 2 == l)) := rfl
        have S2 : Hid (anyTo f 2 g (m + 1) = (anyTo f 2 g m || f m 2 == g)) := rfl
        generalize anyTo f 2 l m = a at *
        generalize anyTo f 2 g m = c at *
        generalize f m 2 = x at *
        have d1 : decide (x < l) = false := by simp; omega
        have d2 : decide (g < x) = false := by simp; omega
        cases a <;> cases c <;> cases hx : (x == l) <;> cases hy : (x == g)
        all_goals
          go_wp2
          go_quiet (fail)
          go_wp2
          go_quiet (fail)
          go_wp2
          refine ⟨⟨_, m + 1, rfl, by omega, by go_num, by rw [S1.out]; first | rfl | (rw [hx]; rfl), by rw [S2.out]; first | rfl | (rw [hy]; rfl)⟩, by simp [intOf]; omega⟩
      · obtain rfl : m = len := by omega
        have AL2 := AL.out
        have AH2 := AH.out
        rw [AL2, AH2]
        clear AL2 AH2
        go_wp2
        refine ⟨⟨by first | exact .inr (.inl rfl) | exact .inr (.inr (.inl rfl)) | exact .inr (.inr (.inr rfl)), sz, below_drewN HB.out _, HL.out.drewN _, HH.out.drewN _⟩, by simp [intOf]⟩
    · have HB := Lib.hid hb
      clear hb rl rh
      go_wp2
      go_ret
      exact ⟨rfl, HB.out⟩

set_option maxHeartbeats 400000 in
theorem boxL_great (A : Option Addr) (len cap : Nat) (w : World) (hl : 40 < len) :
    Calls Try.prog 9 #[.slice A len cap] w fun e w' => e = .returned (.bool true) ∧ Below w.heap.size w w' := by
  go_enter Try.func9, Try.ntmps9
  go_wp2_with fail
  refine (awake_any _).mono ?_
  rintro e w1 ⟨rfl, hb1⟩
  go_wp2
  go_ret
  exact ⟨rfl, hb1⟩

set_option maxHeartbeats 400000 in
theorem boxL_none (A : Option Addr) (cap : Nat) (w : World)
    (X : ∀ W, Calls Try.prog 20 #[.slice A 0 cap] W fun e w' => e = .returned (.tuple #[.agg #[.int .i64 0, .int .i64 0, .int .i64 0], .agg #[.int .i64 0, .int .i64 0, .int .i64 0]]) ∧ Below W.heap.size W w') :
    Calls Try.prog 9 #[.slice A 0 cap] w fun e w' => e = .returned (.bool true) ∧ Below w.heap.size w w' := by
  have HX := Lib.hid X
  clear X
  have q0 : ∀ w, (Op.equalIn 10000 23 (.agg #[.int .i64 0, .int .i64 0, .int .i64 0]) (.agg #[.int .i64 0, .int .i64 0, .int .i64 0])).run Try.prog w = .ok true w := fun w => eq23 0 0 0 0 0 0 w
  go_enter Try.func9, Try.ntmps9
  go_wp2_with fail
  refine (awake_any _).mono ?_
  rintro e w1 ⟨rfl, hb1⟩
  go_wp2_with fail
  refine (HX.out _).mono ?_
  rintro e w2 ⟨rfl, hb2⟩
  have hb : Below w.heap.size w w2 := below_then hb1 hb2
  go_wp2
  go_ret
  exact ⟨rfl, ((hb.alloc hb.size _).alloc (by have := hb.size; simp; omega) _)⟩

theorem boxL_any (v : Value) (w : World) (h : IsPts w v) :
    Calls Try.prog 9 #[v] w fun e w' => e = .returned (.bool true) ∧ Below w.heap.size w w' := by
  rcases h with ⟨A, cap, rfl⟩ | ⟨b, off, len, cap, f, rfl, h0, hcap, _, hc, _⟩
  · exact boxL_none A cap w (fun W => box_nil A cap W)
  · by_cases hl : len ≤ 40
    · exact boxL_some b off len cap f w hl hcap h0 hc
    · exact boxL_great _ len cap w (by omega)
end Go.Proofs.Ytppkbnajpeoaaaa
