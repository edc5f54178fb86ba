/- The sum of bytes: plain facts: the program's way and the reference's are one. -/
import Derived.Test.YtnbhgeehlcjmdaaGreatRows
import Derived.Test.YtnbhgeehlcjmdaaGreatProg
import Derived.WalkKit
import Derived.WalkSpells
import Derived.WalkLawsBesides
import Derived.Lib.Hide
import Derived.Lib.SliceRun
import Derived.Deep.QuietTactic
import Derived.BigQuiet
import Derived.Maps.AppendAt
import Derived.Deep.AppendLies
import Derived.Deep.RegionHeld3
import Derived.OwnWalk
namespace Go.Proofs.YtnbhgeehlcjmdaaGreat
/-- one step of the register -/
def st (x : Nat) : Nat := if x % 2 = 1 then x / 2 ^^^ 3988292384 else x / 2
def stN : Nat → Nat → Nat
  | 0, x => x
  | n + 1, x => stN n (st x)
theorem xor_mod2 (a b : Nat) : (a ^^^ b) % 2 = (a % 2 + b % 2) % 2 := by
  have h : (a ^^^ b) % 2 = a % 2 ^^^ b % 2 := Nat.xor_mod_two_pow (n := 1)
  rw [h]
  rcases Nat.mod_two_eq_zero_or_one a with e | e <;> rcases Nat.mod_two_eq_zero_or_one b with f | f <;> rw [e, f] <;> rfl
theorem xor_div2 (a b : Nat) : (a ^^^ b) / 2 = a / 2 ^^^ b / 2 := by
  have := Nat.shiftRight_xor_distrib (a := a) (b := b) (i := 1)
  simpa [Nat.shiftRight_succ] using this
theorem st_xor (a b : Nat) : st (a ^^^ b) = st a ^^^ st b := by
  unfold st
  rw [xor_mod2, xor_div2]
  rcases Nat.mod_two_eq_zero_or_one a with e | e <;> rcases Nat.mod_two_eq_zero_or_one b with f | f <;> rw [e, f] <;> simp only [Nat.reduceAdd, Nat.reduceMod, if_true, if_false, Nat.zero_ne_one]
  · rw [Nat.xor_assoc]
  · rw [Nat.xor_assoc, Nat.xor_comm (b / 2), Nat.xor_assoc]
  · rw [Nat.xor_assoc, Nat.xor_comm 3988292384, Nat.xor_assoc, Nat.xor_self, Nat.xor_zero]
theorem stN_xor (n a b : Nat) : stN n (a ^^^ b) = stN n a ^^^ stN n b := by
  induction n generalizing a b with
  | zero => rfl
  | succ n ih => simp only [stN, st_xor, ih]
theorem stN_shift (n h : Nat) : stN n (h * 2 ^ n) = h := by
  induction n generalizing h with
  | zero => simp [stN]
  | succ n ih =>
    have e : st (h * 2 ^ (n + 1)) = h * 2 ^ n := by
      have e2 : h * 2 ^ (n + 1) = 2 * (h * 2 ^ n) := by rw [Nat.pow_succ, Nat.mul_comm (2 ^ n) 2, ← Nat.mul_assoc, Nat.mul_comm h 2, Nat.mul_assoc]
      unfold st
      rw [e2, if_neg (by omega)]
      omega
    simp only [stN, e, ih]
theorem st_lt (x : Nat) (h : x < 4294967296) : st x < 4294967296 := by
  unfold st
  split
  · exact Nat.xor_lt_two_pow (n := 32) (by omega) (by decide)
  · omega
theorem stN_lt (n x : Nat) (h : x < 4294967296) : stN n x < 4294967296 := by
  induction n generalizing x with
  | zero => exact h
  | succ n ih => exact ih _ (st_lt x h)
theorem split8 (x : Nat) : x = (x / 256) * 2 ^ 8 ^^^ x % 256 := by
  have h : (x / 256) * 2 ^ 8 + x % 256 = x := by omega
  have := Nat.two_pow_add_eq_or_of_lt (i := 8) (b := x % 256) (by omega) (x / 256)
  rw [Nat.mul_comm] at this
  have e : (x / 256) * 2 ^ 8 ||| x % 256 = (x / 256) * 2 ^ 8 ^^^ x % 256 := by
    apply Nat.eq_of_testBit_eq
    intro i
    rw [Nat.testBit_or, Nat.testBit_xor]
    by_cases hi : i < 8
    · have : ((x / 256) * 2 ^ 8).testBit i = false := by
        rw [Nat.mul_comm, Nat.testBit_two_pow_mul]
        simp; omega
      rw [this]; simp
    · have : (x % 256).testBit i = false := Nat.testBit_lt_two_pow (Nat.lt_of_lt_of_le (Nat.mod_lt _ (by decide)) (Nat.pow_le_pow_right (n := 2) (by decide) (show 8 ≤ i by omega)))
      rw [this]; simp
  omega
/-- one byte: the program's way and the reference's -/
def upd (x c : Nat) : Nat := stN 8 (x ^^^ c)
theorem upd_eq (x c : Nat) : upd x c = (x / 256) ^^^ stN 8 ((x % 256) ^^^ c) := by
  unfold upd
  have e : x ^^^ c = (x / 256) * 2 ^ 8 ^^^ (x % 256 ^^^ c) := by
    rw [← Nat.xor_assoc, ← split8]
  rw [e, stN_xor, stN_shift]
theorem upd_lt (x c : Nat) (h : x < 4294967296) (hc : c < 256) : upd x c < 4294967296 := by
  refine stN_lt 8 _ ?_
  exact Nat.xor_lt_two_pow (n := 32) (by omega) (by omega)
def updAll (x : Nat) (l : List Nat) : Nat := l.foldl upd x
theorem updAll_nil (x : Nat) : updAll x [] = x := rfl
theorem updAll_cons (x c : Nat) (l : List Nat) : updAll x (c :: l) = updAll (upd x c) l := rfl
theorem updAll_append (x : Nat) (l r : List Nat) : updAll x (l ++ r) = updAll (updAll x l) r := List.foldl_append
theorem updAll_lt (l : List Nat) : ∀ x, x < 4294967296 → (∀ c ∈ l, c < 256) → updAll x l < 4294967296 := by
  have k : ∀ x c, x < 4294967296 → c < 256 → upd x c < 4294967296 := upd_lt
  unfold updAll
  generalize upd = u at k
  induction l with
  | nil => intro x h _; exact h
  | cons c l ih =>
    intro x h hl
    have h3 := ih (u x c) (k x c h (hl c List.mem_cons_self)) (fun d hd => hl d (List.mem_cons_of_mem _ hd))
    exact h3
def sumOf (l : List Nat) : Nat := 4294967295 - updAll 4294967295 l
/-- a step loses nothing -/
theorem st_inj (a b : Nat) (ha : a < 4294967296) (hb : b < 4294967296) (h : st a = st b) : a = b := by
  have top : ∀ x : Nat, x < 4294967296 → (x / 2 ^^^ 3988292384).testBit 31 = true := by
    intro x hx
    rw [Nat.testBit_xor]
    have : (x / 2).testBit 31 = false := Nat.testBit_lt_two_pow (by omega)
    rw [this]; decide
  have low : ∀ x : Nat, x < 4294967296 → (x / 2).testBit 31 = false := fun x hx => Nat.testBit_lt_two_pow (by omega)
  unfold st at h
  by_cases e : a % 2 = 1 <;> by_cases f : b % 2 = 1
  · rw [if_pos e, if_pos f] at h
    have h1 := congrArg (· ^^^ 3988292384) h
    simp only [Nat.xor_assoc, Nat.xor_self, Nat.xor_zero] at h1
    omega
  · rw [if_pos e, if_neg f] at h
    have h1 := top a ha
    rw [h, low b hb] at h1
    cases h1
  · rw [if_neg e, if_pos f] at h
    have h1 := top b hb
    rw [← h, low a ha] at h1
    cases h1
  · rw [if_neg e, if_neg f] at h
    omega
theorem stN_inj (n a b : Nat) (ha : a < 4294967296) (hb : b < 4294967296) (h : stN n a = stN n b) : a = b := by
  induction n generalizing a b with
  | zero => exact h
  | succ n ih => exact st_inj a b ha hb (ih _ _ (st_lt a ha) (st_lt b hb) h)
end Go.Proofs.YtnbhgeehlcjmdaaGreat
/-! Words for memory: rows of bytes; appends of bytes; crc's sum of bytes: walks. -/
namespace Go.Proofs.YtnbhgeehlcjmdaaGreat
open Go.RowKit

theorem and1 (y : Nat) (h : y < 4294967296) : bits .and .u32 (y : Int) 1 = ((y % 2 : Nat) : Int) := by
  have := u32_and_nat y 1 h (by omega)
  rw [Nat.and_one_is_mod] at this
  exact this
theorem xorP (y : Nat) (h : y < 4294967296) : bits .xor .u32 ((y : Int) / 2) 3988292384 = ((y / 2 ^^^ 3988292384 : Nat) : Int) :=
  u32_xor_nat (y / 2) 3988292384 (by omega) (by omega)
theorem st_odd (y : Nat) (h : ((y : Int) % 2 == 1) = true) : st y = y / 2 ^^^ 3988292384 := by
  simp at h
  unfold st
  rw [if_pos (by omega)]
theorem st_even (y : Nat) (h : ((y : Int) % 2 == 1) = false) : st y = y / 2 := by
  simp at h
  unfold st
  rw [if_neg (by omega)]
theorem ret_u32 {a b : Int} (h : a = b) : Ending.returned (.int .u32 a) = .returned (.int .u32 b) := by rw [h]

theorem stN_round (k y : Nat) (h : k < 8) : stN (8 - k) y = stN (8 - (k + 1)) (st y) := by
  have : 8 - k = (8 - (k + 1)) + 1 := by omega
  rw [this, stN]

set_option maxHeartbeats 400000 in
theorem row_any (y : Nat) (hy : y < 4294967296) (w : World) :
    Calls Tryz.prog 115 #[.int .u32 (y : Int)] w fun e w' => e = .returned (.int .u32 (stN 8 y : Nat)) ∧ w = w' := by
  go_enter Tryz.func115, Tryz.ntmps115
  go_wp2
  go_loop [0, 4] (fun x i => ∃ k y' : Nat, k ≤ 8 ∧ i = .int .i64 k ∧ x = .int .u32 y' ∧ y' < 4294967296 ∧ stN (8 - k) y' = stN 8 y) (fun _ i => 8 - (intOf i).toNat)
  case atStart => exact ⟨0, y, by omega, rfl, rfl, hy, rfl⟩
  case round =>
    obtain ⟨k, y', hk, rfl, rfl, hy', he⟩ := hrel
    have HE := Lib.hid he
    clear he
    by_cases hlt : k < 8
    · have ha := and1 y' hy'
      cases h : ((y' : Int) % 2 == 1)
      · have h0 : (bits .and .u32 (y' : Int) 1 == 1) = false := by rw [ha]; simp at h ⊢; omega
        clear ha
        go_wp2
        refine ⟨⟨k + 1, st y', by omega, by go_num, by rw [st_even y' h]; rfl, st_lt y' hy', ?_⟩, by simp [intOf]; omega⟩
        rw [← stN_round k y' hlt, HE.out]
      · have h0 : (bits .and .u32 (y' : Int) 1 == 1) = true := by rw [ha]; simp at h ⊢; omega
        clear ha
        go_wp2
        refine ⟨⟨k + 1, st y', by omega, by go_num, by rw [st_odd y' h, xorP y' hy'], st_lt y' hy', ?_⟩, by simp [intOf]; omega⟩
        rw [← stN_round k y' hlt, HE.out]
    · obtain rfl : k = 8 := by omega
      go_wp2
      go_ret
      exact ⟨ret_u32 (by rw [← HE.out]; rfl), rfl⟩

/-- bytes as a slice holds them: where there are any, from a cell on, one to a cell -/
def Byt (w : World) (A : Option Addr) (xs : List Nat) : Prop :=
  (∀ x ∈ xs, x < 256) ∧ (0 < xs.length → ∃ b off, A = some ⟨b, off, none⟩ ∧ ∀ i, i < xs.length → w.cell? ⟨b, off + i, none⟩ = some (.int .u8 ((xs.getD i 0 : Nat) : Int)))
theorem Byt.below {w w' : World} {A : Option Addr} {xs : List Nat} (h : Byt w A xs) (hb : Below w.heap.size w w') : Byt w' A xs := by
  refine ⟨h.1, fun h0 => ?_⟩
  obtain ⟨b, off, e, hc⟩ := h.2 h0
  refine ⟨b, off, e, fun i hi => ?_⟩
  have := hc i hi
  exact (hb.cell (World.block_lt_of_cell? _ _ this)).trans this
theorem getD_at {α : Type} (l : List α) (k : Nat) (d : α) (h : k < l.length) : l.getD k d = l[k] := by simp [List.getD, List.getElem?_eq_getElem h]
theorem Byt.lt {w : World} {A : Option Addr} {xs : List Nat} (h : Byt w A xs) (i : Nat) : xs.getD i 0 < 256 := by
  by_cases hi : i < xs.length
  · rw [getD_at _ _ _ hi]
    exact h.1 _ (List.getElem_mem hi)
  · have : xs.getD i 0 = 0 := by simp [List.getD, List.getElem?_eq_none (show xs.length ≤ i by omega)]
    omega
theorem take_snoc {α : Type} (l : List α) (d : α) (k : Nat) (h : k < l.length) : l.take (k + 1) = l.take k ++ [l.getD k d] := by
  rw [List.take_succ_eq_append_getElem h, getD_at _ _ _ h]

theorem not32 (y : Nat) (h : y < 4294967296) : 4294967295 ^^^ y = 4294967295 - y := by
  have e : (BitVec.allOnes 32 ^^^ BitVec.ofNat 32 y).toNat = (~~~ BitVec.ofNat 32 y).toNat := by rw [BitVec.allOnes_xor]
  rw [BitVec.toNat_xor, BitVec.toNat_not, BitVec.toNat_allOnes, BitVec.toNat_ofNat, Nat.mod_eq_of_lt (by omega)] at e
  omega
theorem compl32 (y : Nat) (h : y < 4294967296) : bits .xor .u32 IntKind.u32.max (y : Int) = ((4294967295 - y : Nat) : Int) := by
  have e : IntKind.u32.max = ((4294967295 : Nat) : Int) := by decide
  rw [e, u32_xor_nat _ _ (by omega) h, not32 y h]
theorem and255 (y : Nat) (h : y < 4294967296) : bits .and .u32 (y : Int) 255 = ((y % 256 : Nat) : Int) := by
  have := u32_and_nat y 255 h (by omega)
  rw [show y &&& 255 = y % 256 from Nat.and_two_pow_sub_one_eq_mod y 8] at this
  exact this

set_option maxHeartbeats 400000 in
theorem update_any (A : Option Addr) (c : Nat) (xs : List Nat) (w : World) (hB : Byt w A xs) (hl : xs.length ≤ maxLen) :
    Calls Tryz.prog 72 #[.int .u32 0, .slice A xs.length c] w fun e w' => e = .returned (.int .u32 (sumOf xs : Nat)) ∧ w = w' := by
  unfold maxLen at hl
  have h0 : bits BinOp.xor IntKind.u32 IntKind.u32.max 0 = 4294967295 := by decide
  go_enter Tryz.func72, Tryz.ntmps72
  go_wp2
  clear h0
  go_loop [5, 12] (fun x i => ∃ k : Nat, k ≤ xs.length ∧ i = .int .i64 k ∧ x = .int .u32 (updAll 4294967295 (xs.take k) : Nat)) (fun _ i => xs.length - (intOf i).toNat)
  case atStart => exact ⟨0, by omega, rfl, by rw [List.take_zero, updAll_nil]; rfl⟩
  case round =>
    obtain ⟨k, hk, rfl, rfl⟩ := hrel
    by_cases hlt : k < xs.length
    · obtain ⟨b, off, rfl, hc⟩ := hB.2 (by omega)
      have c0 := hc k hlt
      have x0 := hB.lt k
      have y0 := updAll_lt (xs.take k) 4294967295 (by omega) (fun c hc => hB.1 c (List.mem_of_mem_take hc))
      have S : updAll 4294967295 (xs.take (k + 1)) = upd (updAll 4294967295 (xs.take k)) (xs.getD k 0) := by
        rw [take_snoc xs 0 k hlt, updAll_append]; rfl
      have HS := Lib.hid S
      clear S hc
      generalize xs.getD k 0 = v at *
      generalize updAll 4294967295 (xs.take k) = y at *
      have e1 := and255 y y0
      have l1 : y % 256 ^^^ v < 4294967296 := Nat.xor_lt_two_pow (n := 32) (by omega) (by omega)
      have R : Calls Tryz.prog 115 #[.int .u32 (bits .xor .u32 ((y : Int) % 256) (v : Int))] w fun e w' => e = .returned (.int .u32 (stN 8 (y % 256 ^^^ v) : Nat)) ∧ w = w' := by
        have e2 : bits .xor .u32 ((y : Int) % 256) (v : Int) = ((y % 256 ^^^ v : Nat) : Int) := u32_xor_nat (y % 256) v (by omega) (by omega)
        rw [e2]
        exact row_any _ l1 w
      have l2 := stN_lt 8 _ l1
      have e3 : Hid (bits .xor .u32 ((y : Int) / 256) ((stN 8 (y % 256 ^^^ v) : Nat) : Int) = ((upd y v : Nat) : Int)) := by
        show bits .xor .u32 ((y : Int) / 256) ((stN 8 (y % 256 ^^^ v) : Nat) : Int) = ((upd y v : Nat) : Int)
        rw [upd_eq]
        exact u32_xor_nat (y / 256) _ (by omega) l2
      clear l1 l2
      have R := Lib.hid R
      go_wp2_with fail
      refine (Hid.out R).mono ?_
      rintro e w' ⟨rfl, rfl⟩
      generalize stN 8 (y % 256 ^^^ v) = z at *
      go_wp2
      refine ⟨⟨k + 1, by omega, by go_num, ?_⟩, by simp [intOf]; omega⟩
      rw [e3.out, HS.out]
    · obtain rfl : k = xs.length := by omega
      have y0 := updAll_lt xs 4294967295 (by omega) hB.1
      have e0 : sumOf xs = 4294967295 - updAll 4294967295 xs := rfl
      have e1 := compl32 _ y0
      rw [List.take_length]
      have E0 := Lib.hid e0
      have E1 := Lib.hid e1
      clear e0 e1
      go_wp2
      go_ret
      exact ⟨ret_u32 (by rw [E0.out]; exact E1.out), rfl⟩
set_option maxHeartbeats 400000 in
theorem sum_any (A : Option Addr) (c : Nat) (xs : List Nat) (w : World) (hB : Byt w A xs) (hl : xs.length ≤ maxLen) :
    Calls Tryz.prog 33 #[.slice A xs.length c] w fun e w' => e = .returned (.int .u32 (sumOf xs : Nat)) ∧ w = w' := by
  have U := update_any A c xs w hB hl
  have U := Lib.hid U
  go_enter Tryz.func33, Tryz.ntmps33
  go_wp2_with fail
  refine (Hid.out U).mono ?_
  rintro e w' ⟨rfl, rfl⟩
  go_wp2
  go_ret
  exact ⟨rfl, rfl⟩

def bys (xs : List Nat) : List Value := xs.map fun (x : Nat) => Value.int .u8 (x : Int)
theorem byte_info : (Tryz.prog.info? 5).map (fun i => (i.zero, i.size, i.bytes)) = some (some (.int .u8 0), 1, 1) := by kernel_rfl
theorem below_drewN {B : Nat} {a w : World} (h : Below B a w) (n : Nat) : Below B a (w.drewN n) := ⟨h.os, h.tape, h.output, h.size, h.block⟩
theorem bcell {W w1 : World} (hb : Below W.heap.size W w1) : (∀ b o, b < W.heap.size → w1.cell? ⟨b, o, none⟩ = W.cell? ⟨b, o, none⟩) ∧ (∀ b o, b < W.heap.size → w1.frozen? ⟨b, o, none⟩ = W.frozen? ⟨b, o, none⟩) :=
  ⟨fun b o h => hb.cell (p := ⟨b, o, none⟩) h, fun b o h => hb.frozen (p := ⟨b, o, none⟩) h⟩
theorem below_then {w a b : World} (h : Below w.heap.size w a) (k : Below a.heap.size a b) : Below w.heap.size w b := h.trans (k.mono h.size)
theorem below_alloc {w a : World} (h : Below w.heap.size w a) (o : Obj) : Below w.heap.size w (a.alloc o) := h.alloc h.size o
theorem below_set {w a : World} {p : Addr} (h : Below w.heap.size w a) (hp : w.heap.size ≤ p.block) (u : Value) : Below w.heap.size w (a.setCell p u) := h.setCell hp u
theorem grown_below {w w' : World} (hb : Below w.heap.size w w') (row : Option Nat) : w.grownBy w' row := ⟨hb.os, hb.tape, hb.output, hb.size, fun i hi _ => hb.block i hi⟩
theorem own_below {w w' : World} {base : Nat} {e : TypeId} {size : Nat} {v : Value} {n : Nat} {xs : List Value} (h : w.ownsRow base e size v n xs) (hb : Below w.heap.size w w') : w'.ownsRow base e size v n xs :=
  h.kept (row := none) (grown_below hb none) (Classical.em _)
theorem own_drew {w : World} {base : Nat} {e : TypeId} {size : Nat} {v : Value} {n : Nat} {xs : List Value} (h : w.ownsRow base e size v n xs) : w.drew.ownsRow base e size v n xs := h
theorem own_drewN {w : World} {base : Nat} {e : TypeId} {size : Nat} {v : Value} {n : Nat} {xs : List Value} (h : w.ownsRow base e size v n xs) (k : Nat) : (w.drewN k).ownsRow base e size v n xs := h
theorem own_base {w : World} {base base' : Nat} {e : TypeId} {size : Nat} {v : Value} {n : Nat} {xs : List Value} (h : w.ownsRow base e size v n xs) (hb : base' ≤ base) : w.ownsRow base' e size v n xs := by
  refine ⟨h.1, ?_⟩
  rcases h.2 with hn | ⟨g, cap, cur, hv, hg, rest⟩
  · exact .inl hn
  · exact .inr ⟨g, cap, cur, hv, by omega, rest⟩
/-- rows of unlike types lie apart -/
theorem own_apart {w : World} {b1 b2 : Nat} {e1 e2 : TypeId} {s1 s2 : Nat} {v1 v2 : Value} {n1 n2 : Nat} {x1 x2 : List Value} (h1 : w.ownsRow b1 e1 s1 v1 n1 x1) (h2 : w.ownsRow b2 e2 s2 v2 n2 x2) (hne : e1 ≠ e2) : v1.ownBlock = none ∨ v1.ownBlock ≠ v2.ownBlock := by
  rcases h1.2 with ⟨rfl, _⟩ | ⟨g1, c1, r1, rfl, _, hh1, _⟩
  · left; rfl
  · right
    rcases h2.2 with ⟨rfl, _⟩ | ⟨g2, c2, r2, rfl, _, hh2, _⟩
    · simp [Value.ownBlock]
    · intro he
      have : g1 = g2 := by simpa [Value.ownBlock] using he
      subst this
      rw [hh1] at hh2
      injection hh2 with hh2
      injection hh2 with _ ht
      exact hne ht

theorem bys_len (xs : List Nat) : (bys xs).length = xs.length := by simp [bys]
theorem bys_app (xs ys : List Nat) : bys (xs ++ ys) = bys xs ++ bys ys := by simp [bys]
theorem bys_one (xs : List Nat) : ∀ u ∈ bys xs, u.oneCell' = true := by
  intro u hu
  simp only [bys, List.mem_map] at hu
  obtain ⟨x, _, rfl⟩ := hu
  rfl
theorem add_at (b o j : Nat) : (⟨b, o, none⟩ : Addr).add j = ⟨b, o + j, none⟩ := by
  unfold Addr.add
  split
  · rename_i h; subst h; rfl
  · rfl
theorem Byt.nil (w : World) (A : Option Addr) : Byt w A [] := ⟨by simp, by simp⟩
theorem Byt.cells {w : World} {ad : Addr} {ys : List Nat} (h : Byt w (some ad) ys) : ∀ j u, (bys ys)[j]? = some u → w.cell? (ad.add j) = some u := by
  intro j u hu
  have hj : j < ys.length := by
    rcases Nat.lt_or_ge j ys.length with h | h
    · exact h
    · rw [List.getElem?_eq_none (by rw [bys_len]; exact h)] at hu; cases hu
  obtain ⟨b, off, e, hc⟩ := h.2 (by omega)
  injection e with e
  subst e
  have := hc j hj
  rw [add_at, this]
  simp [bys, hj] at hu
  rw [← hu, getD_at _ _ _ hj]
theorem Byt.grown {w w' : World} {A : Option Addr} {xs : List Nat} {row : Option Nat} (h : Byt w A xs) (hg : w.grownBy w' row) (hr : ∀ k, row = some k → (∀ b off, A = some ⟨b, off, none⟩ → b ≠ k)) : Byt w' A xs := by
  refine ⟨h.1, fun h0 => ?_⟩
  obtain ⟨b, off, e, hc⟩ := h.2 h0
  exact ⟨b, off, e, fun i hi => hg.cell (hc i hi) (fun e2 => hr b e2.symm b off e rfl)⟩
theorem Byt.drewN {w : World} {A : Option Addr} {xs : List Nat} (h : Byt w A xs) (n : Nat) : Byt (w.drewN n) A xs := h
theorem Byt.drew {w : World} {A : Option Addr} {xs : List Nat} (h : Byt w A xs) : Byt w.drew A xs := h
theorem Byt.of_own {w : World} {base : Nat} {v : Value} {xs : List Nat} (h : w.ownsRow base 5 1 v xs.length (bys xs)) (hx : ∀ x ∈ xs, x < 256) :
    ∃ A c, v = .slice A xs.length c ∧ Byt w A xs ∧ xs.length ≤ c ∧ c ≤ maxLen := by
  rcases h.2 with ⟨rfl, h0⟩ | ⟨g, cap, cur, rfl, hb, hg, hnc, hcm, hsz, ht⟩
  · obtain rfl : xs = [] := List.eq_nil_of_length_eq_zero h0
    exact ⟨none, 0, rfl, Byt.nil _ _, by simp, by decide⟩
  · refine ⟨_, _, rfl, ⟨hx, fun _ => ⟨g, 0, rfl, fun i hi => ?_⟩⟩, hnc, hcm⟩
    have hc := h.cells (g := g) rfl i (.int .u8 ((xs.getD i 0 : Nat) : Int)) (by simp [bys, hi])
    rw [add_at] at hc
    exact hc
/-- what is cut off in front -/
theorem Byt.take {w : World} {A : Option Addr} {xs : List Nat} (h : Byt w A xs) (k : Nat) : Byt w A (xs.take k) := by
  refine ⟨fun x hx => h.1 x (List.mem_of_mem_take hx), fun h0 => ?_⟩
  simp only [List.length_take] at h0
  obtain ⟨b, off, e, hc⟩ := h.2 (by omega)
  refine ⟨b, off, e, fun i hi => ?_⟩
  simp only [List.length_take] at hi
  rw [hc i (by omega)]
  simp [List.getD, show i < k by omega]
theorem Byt.drop {w : World} {A : Option Addr} {xs : List Nat} (h : Byt w A xs) (k c : Nat) (hk : k ≤ xs.length) (hc : xs.length ≤ c) : Byt w (if c = k then A else A.map (·.add k)) (xs.drop k) := by
  refine ⟨fun x hx => h.1 x (List.mem_of_mem_drop hx), fun h0 => ?_⟩
  simp only [List.length_drop] at h0
  obtain ⟨b, off, rfl, hce⟩ := h.2 (by omega)
  rw [if_neg (by omega)]
  refine ⟨b, off + k, by simp [add_at], fun i hi => ?_⟩
  simp only [List.length_drop] at hi
  rw [show off + k + i = off + (k + i) by omega, hce (k + i) (by omega)]
  simp [List.getD]

section
variable {w : World}
theorem run_append_byt (base : Nat) (ty : TypeId) (v : Value) (n : Nat) (xs : List Value) (hown : w.ownsRow base 5 1 v n xs) (A : Option Addr) (c : Nat) (ys : List Nat) (hB : Byt w A ys)
    (h63 : n + ys.length ≤ 140737488355328) (hbase : base ≤ w.heap.size) :
    ∃ v' w', (Builtin.append_ #[25, 25] ty #[v, .slice A ys.length c]).run Tryz.prog w = .ok v' w' ∧ w'.ownsRow base 5 1 v' (n + ys.length) (xs ++ bys ys) ∧ w.grownBy w' v.ownBlock ∧ (v'.ownBlock = v.ownBlock ∨ v'.ownBlock = some w.heap.size) := by
  obtain ⟨i0, hi0, hz0, hz1, hz2⟩ := info_parts byte_info
  rcases A with _ | ad
  · have hn : ys = [] := by
      rcases ys with _ | ⟨y, ys⟩
      · rfl
      · obtain ⟨b, off, h, _⟩ := hB.2 (by simp)
        cases h
    subst hn
    refine ⟨v, w, ?_, by simpa [bys] using hown, World.grownBy.refl w _, .inl rfl⟩
    have ht := Tryz.underlying25
    rcases hown.2 with ⟨rfl, rfl⟩ | ⟨g, cap, cur, rfl, _, _, hnc, _⟩
    · simp [Builtin.append_, run_underlying ht, sizeOf, typeInfo, hi0, Builtin.lenOf, Builtin.firstCells]
    · simp [Builtin.append_, run_underlying ht, sizeOf, typeInfo, hi0, Builtin.lenOf, Builtin.firstCells, hnc, storeCells]
  · obtain ⟨v', w', hrun, h2, h3, _, h5⟩ := run_append_own_at (P := Tryz.prog) w base 25 ty 5 i0 _ 1 1 Tryz.underlying25 hi0 hz0 hz1 hz2 rfl (by decide) v n xs hown ad ys.length c (bys ys) (by rw [bys_len, Nat.mul_one]) hB.cells (bys_one ys) (by unfold maxLen; omega) (by omega) hbase
    exact ⟨v', w', hrun, h2, h3, h5⟩
theorem wp_append_byt {o : Oper} {a : Act} {K : Act → World → Prop} {Q : Exit → Act → World → Prop} (s x : Operand)
    (ho : o.op = .call { callee := .builtin .append, args := #[s, x], argTypes := #[25, 25] })
    (base : Nat) (v : Value) (n : Nat) (xs : List Value) (hs : a.eval s = v) (hown : w.ownsRow base 5 1 v n xs)
    (A : Option Addr) (c : Nat) (ys : List Nat) (hx : a.eval x = .slice A ys.length c) (hB : Byt w A ys)
    (h63 : n + ys.length ≤ 140737488355328) (hbase : base ≤ w.heap.size)
    (h : ∀ v' w', w'.ownsRow base 5 1 v' (n + ys.length) (xs ++ bys ys) → w.grownBy w' v.ownBlock → (v'.ownBlock = v.ownBlock ∨ v'.ownBlock = some w.heap.size) → K (a.put o.dst v') w') : o.wp Tryz.prog a w K Q := by
  obtain ⟨v', w', hrun, h2, h3, h4⟩ := run_append_byt (w := w) base o.type v n xs hown A c ys hB h63 hbase
  unfold Oper.wp execOp
  simp only [ho, resolve, invoke, builtin, Sem.run_bind, Sem.run_pure, Result.andThen_ok, List.map_toArray, List.map_cons, List.map_nil, hs, hx, hrun]
  exact h v' w' h2 h3 h4
theorem wpList_append_byt {ops : Array Oper} {rest : List Oper} {o : Oper} {a : Act} {Q : Exit → Act → World → Prop} (hgd : o.guard = none) (s x : Operand)
    (ho : o.op = .call { callee := .builtin .append, args := #[s, x], argTypes := #[25, 25] })
    (base : Nat) (v : Value) (n : Nat) (xs : List Value) (hs : a.eval s = v) (hown : w.ownsRow base 5 1 v n xs)
    (A : Option Addr) (c : Nat) (ys : List Nat) (hx : a.eval x = .slice A ys.length c) (hB : Byt w A ys)
    (h63 : n + ys.length ≤ 140737488355328) (hbase : base ≤ w.heap.size)
    (h : ∀ v' w', w'.ownsRow base 5 1 v' (n + ys.length) (xs ++ bys ys) → w.grownBy w' v.ownBlock → (v'.ownBlock = v.ownBlock ∨ v'.ownBlock = some w.heap.size) → wpList Tryz.prog ops Q rest (a.put o.dst v') w') : wpList Tryz.prog ops Q (o :: rest) a w :=
  wpList_plain hgd fun _ hK => wp_append_byt s x ho base v n xs hs hown A c ys hx hB h63 hbase fun v' w' h2 h3 h4 => hK _ _ (h v' w' h2 h3 h4)
theorem step_append_byt {ops : Array Oper} {o : Oper} {a : Act} {K : Act → World → Prop} {Q : Exit → Act → World → Prop} {E : Prop} (hgd : o.guard = none) (s x : Operand)
    (ho : o.op = .call { callee := .builtin .append, args := #[s, x], argTypes := #[25, 25] })
    (base : Nat) (v : Value) (n : Nat) (xs : List Value) (hs : a.eval s = v) (hown : w.ownsRow base 5 1 v n xs)
    (A : Option Addr) (c : Nat) (ys : List Nat) (hx : a.eval x = .slice A ys.length c) (hB : Byt w A ys)
    (h63 : n + ys.length ≤ 140737488355328) (hbase : base ≤ w.heap.size)
    (h : ∀ v' w', w'.ownsRow base 5 1 v' (n + ys.length) (xs ++ bys ys) → w.grownBy w' v.ownBlock → (v'.ownBlock = v.ownBlock ∨ v'.ownBlock = some w.heap.size) → K (a.put o.dst v') w') :
    if Region.wanted o (yielded ops a.tmps) = true then Oper.wp Tryz.prog o a w K Q else E := by
  have hw : Region.wanted o (yielded ops a.tmps) = true := by simp [Region.wanted, hgd]
  rw [if_pos hw]
  exact wp_append_byt s x ho base v n xs hs hown A c ys hx hB h63 hbase h
end

def Blk (w : World) (g : Nat) (t : TypeId) (cs : Array Value) : Prop := w.heap[g]? = some (.cells cs t (0, 0))
theorem Blk.lt {w : World} {g : Nat} {t : TypeId} {cs : Array Value} (h : Blk w g t cs) : g < w.heap.size := by
  rcases Nat.lt_or_ge g w.heap.size with hlt | hge
  · exact hlt
  · unfold Blk at h; rw [Array.getElem?_eq_none hge] at h; cases h
theorem Blk.cell {w : World} {g : Nat} {t : TypeId} {cs : Array Value} (h : Blk w g t cs) (i : Nat) : w.cell? ⟨g, i, none⟩ = cs[i]? := cell_of_row w g i cs t (0, 0) h
theorem Blk.below {w w' : World} {g : Nat} {t : TypeId} {cs : Array Value} (h : Blk w g t cs) (hb : Below w.heap.size w w') : Blk w' g t cs := (hb.block g h.lt).trans h
theorem Blk.new {w : World} {g : Nat} {t : TypeId} {cs : Array Value} (h : g = w.heap.size) : Blk (w.alloc (.cells cs t)) g t cs := by subst h; exact heap_alloc_new w _
theorem Blk.alloc {w : World} {g : Nat} {t : TypeId} {cs : Array Value} (h : Blk w g t cs) (o : Obj) : Blk (w.alloc o) g t cs := (Below.heap_alloc w o g h.lt).trans h
theorem Blk.grown {w w' : World} {g : Nat} {t : TypeId} {cs : Array Value} (h : Blk w g t cs) {base : Nat} {e : TypeId} {size n : Nat} {v : Value} {xs : List Value} (hown : w.ownsRow base e size v n xs) (hg : w.grownBy w' v.ownBlock) (hne : e ≠ t) : Blk w' g t cs := by
  refine (hg.block g h.lt (fun he => ?_)).trans h
  rcases hown.2 with ⟨rfl, _⟩ | ⟨g', cap, cur, rfl, _, hh, _⟩
  · simp [Value.ownBlock] at he
  · have : g = g' := by simpa [Value.ownBlock] using he
    subst this
    unfold Blk at h
    rw [h] at hh
    injection hh with hh
    injection hh with _ ht
    exact hne ht.symm
theorem app_below {w0 w w1 : World} {e : TypeId} {size n : Nat} {v : Value} {xs : List Value} (hb : Below w0.heap.size w0 w) (hown : w.ownsRow w0.heap.size e size v n xs) (hg : w.grownBy w1 v.ownBlock) : Below w0.heap.size w0 w1 :=
  Below.grown hb hg hb.size (fun k hk => (hown.lt k hk).1)
theorem byt1 {w : World} {g x : Nat} (hx : x < 256) (h : g = w.heap.size) : Byt (w.alloc (.cells #[.int .u8 (x : Int)] 5)) (some ⟨g, 0, none⟩) [x] := by
  subst h
  refine ⟨by simpa using hx, fun _ => ⟨_, 0, rfl, fun i hi => ?_⟩⟩
  obtain rfl : i = 0 := by simpa using hi
  rw [cell_of_row _ _ _ _ 5 (0, 0) (heap_alloc_new w _)]
  rfl

theorem own_blk {w w' : World} {g : Nat} {t : TypeId} {cs : Array Value} {base : Nat} {e : TypeId} {size n : Nat} {v : Value} {xs : List Value} (h : w.ownsRow base e size v n xs) (hK : Blk w g t cs) (hg : w.grownBy w' (some g)) (hne : e ≠ t) : w'.ownsRow base e size v n xs := by
  refine h.kept hg ?_
  rcases h.2 with ⟨rfl, _⟩ | ⟨g', cap, cur, rfl, _, hh, _⟩
  · left; rfl
  · right
    intro he
    have : g' = g := by simpa [Value.ownBlock] using he
    subst this
    unfold Blk at hK
    rw [hK] at hh
    injection hh with hh
    injection hh with _ ht
    exact hne ht.symm
theorem grown_trans' {w0 w w1 : World} {g : Nat} (hb : Below w0.heap.size w0 w) (hg : w.grownBy w1 (some g)) (h : w0.heap.size ≤ g) : Below w0.heap.size w0 w1 :=
  Below.grown hb hg hb.size (fun k hk => by injection hk with hk; omega)

theorem own_grown {w w1 : World} {b1 b2 : Nat} {e1 e2 : TypeId} {s1 s2 : Nat} {v1 v2 : Value} {n1 n2 : Nat} {x1 x2 : List Value} (h : w.ownsRow b1 e1 s1 v1 n1 x1) (hown : w.ownsRow b2 e2 s2 v2 n2 x2) (hg : w.grownBy w1 v2.ownBlock) (hne : e1 ≠ e2) : w1.ownsRow b1 e1 s1 v1 n1 x1 :=
  h.kept hg (own_apart h hown hne)
end Go.Proofs.YtnbhgeehlcjmdaaGreat
