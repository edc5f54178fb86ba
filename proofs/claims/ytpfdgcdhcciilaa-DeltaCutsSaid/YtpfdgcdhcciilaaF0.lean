/- The sum of bytes: plain facts: the program's way and the reference's are one. -/
namespace Go.Proofs.Ytpfdgcdhcciilaa
/-- one step of the register -/
def st (x : Nat) : Nat := if x % 2 = 1 then x / 2 ^^^ 3988292384 else x / 2
def stN : Nat → Nat → Nat
  | 0, x => x
  | n + 1, x => stN n (st x)
theorem xor_mod2 (a b : Nat) : (a ^^^ b) % 2 = (a % 2 + b % 2) % 2 := by
  have h : (a ^^^ b) % 2 = a % 2 ^^^ b % 2 := Nat.xor_mod_two_pow (n := 1)
  rw [h]
  rcases Nat.mod_two_eq_zero_or_one a with e | e <;> rcases Nat.mod_two_eq_zero_or_one b with f | f <;> rw [e, f] <;> rfl
theorem xor_div2 (a b : Nat) : (a ^^^ b) / 2 = a / 2 ^^^ b / 2 := by
  have := Nat.shiftRight_xor_distrib (a := a) (b := b) (i := 1)
  simpa [Nat.shiftRight_succ] using this
theorem st_xor (a b : Nat) : st (a ^^^ b) = st a ^^^ st b := by
  unfold st
  rw [xor_mod2, xor_div2]
  rcases Nat.mod_two_eq_zero_or_one a with e | e <;> rcases Nat.mod_two_eq_zero_or_one b with f | f <;> rw [e, f] <;> simp only [Nat.reduceAdd, Nat.reduceMod, if_true, if_false, Nat.zero_ne_one]
  · rw [Nat.xor_assoc]
  · rw [Nat.xor_assoc, Nat.xor_comm (b / 2), Nat.xor_assoc]
  · rw [Nat.xor_assoc, Nat.xor_comm 3988292384, Nat.xor_assoc, Nat.xor_self, Nat.xor_zero]
theorem stN_xor (n a b : Nat) : stN n (a ^^^ b) = stN n a ^^^ stN n b := by
  induction n generalizing a b with
  | zero => rfl
  | succ n ih => simp only [stN, st_xor, ih]
theorem stN_shift (n h : Nat) : stN n (h * 2 ^ n) = h := by
  induction n generalizing h with
  | zero => simp [stN]
  | succ n ih =>
    have e : st (h * 2 ^ (n + 1)) = h * 2 ^ n := by
      have e2 : h * 2 ^ (n + 1) = 2 * (h * 2 ^ n) := by rw [Nat.pow_succ, Nat.mul_comm (2 ^ n) 2, ← Nat.mul_assoc, Nat.mul_comm h 2, Nat.mul_assoc]
      unfold st
      rw [e2, if_neg (by omega)]
      omega
    simp only [stN, e, ih]
theorem st_lt (x : Nat) (h : x < 4294967296) : st x < 4294967296 := by
  unfold st
  split
  · exact Nat.xor_lt_two_pow (n := 32) (by omega) (by decide)
  · omega
theorem stN_lt (n x : Nat) (h : x < 4294967296) : stN n x < 4294967296 := by
  induction n generalizing x with
  | zero => exact h
  | succ n ih => exact ih _ (st_lt x h)
theorem split8 (x : Nat) : x = (x / 256) * 2 ^ 8 ^^^ x % 256 := by
  have h : (x / 256) * 2 ^ 8 + x % 256 = x := by omega
  have := Nat.two_pow_add_eq_or_of_lt (i := 8) (b := x % 256) (by omega) (x / 256)
  rw [Nat.mul_comm] at this
  have e : (x / 256) * 2 ^ 8 ||| x % 256 = (x / 256) * 2 ^ 8 ^^^ x % 256 := by
    apply Nat.eq_of_testBit_eq
    intro i
    rw [Nat.testBit_or, Nat.testBit_xor]
    by_cases hi : i < 8
    · have : ((x / 256) * 2 ^ 8).testBit i = false := by
        rw [Nat.mul_comm, Nat.testBit_two_pow_mul]
        simp; omega
      rw [this]; simp
    · have : (x % 256).testBit i = false := Nat.testBit_lt_two_pow (Nat.lt_of_lt_of_le (Nat.mod_lt _ (by decide)) (Nat.pow_le_pow_right (n := 2) (by decide) (show 8 ≤ i by omega)))
      rw [this]; simp
  omega
/-- one byte: the program's way and the reference's -/
def upd (x c : Nat) : Nat := stN 8 (x ^^^ c)
theorem upd_eq (x c : Nat) : upd x c = (x / 256) ^^^ stN 8 ((x % 256) ^^^ c) := by
  unfold upd
  have e : x ^^^ c = (x / 256) * 2 ^ 8 ^^^ (x % 256 ^^^ c) := by
    rw [← Nat.xor_assoc, ← split8]
  rw [e, stN_xor, stN_shift]
theorem upd_lt (x c : Nat) (h : x < 4294967296) (hc : c < 256) : upd x c < 4294967296 := by
  refine stN_lt 8 _ ?_
  exact Nat.xor_lt_two_pow (n := 32) (by omega) (by omega)
def updAll (x : Nat) (l : List Nat) : Nat := l.foldl upd x
theorem updAll_nil (x : Nat) : updAll x [] = x := rfl
theorem updAll_cons (x c : Nat) (l : List Nat) : updAll x (c :: l) = updAll (upd x c) l := rfl
theorem updAll_append (x : Nat) (l r : List Nat) : updAll x (l ++ r) = updAll (updAll x l) r := List.foldl_append
theorem updAll_lt (l : List Nat) : ∀ x, x < 4294967296 → (∀ c ∈ l, c < 256) → updAll x l < 4294967296 := by
  have k : ∀ x c, x < 4294967296 → c < 256 → upd x c < 4294967296 := upd_lt
  unfold updAll
  generalize upd = u at k
  induction l with
  | nil => intro x h _; exact h
  | cons c l ih =>
    intro x h hl
    have h3 := ih (u x c) (k x c h (hl c List.mem_cons_self)) (fun d hd => hl d (List.mem_cons_of_mem _ hd))
    exact h3
def sumOf (l : List Nat) : Nat := 4294967295 - updAll 4294967295 l
/-- a step loses nothing -/
theorem st_inj (a b : Nat) (ha : a < 4294967296) (hb : b < 4294967296) (h : st a = st b) : a = b := by
  have top : ∀ x : Nat, x < 4294967296 → (x / 2 ^^^ 3988292384).testBit 31 = true := by
    intro x hx
    rw [Nat.testBit_xor]
    have : (x / 2).testBit 31 = false := Nat.testBit_lt_two_pow (by omega)
    rw [this]; decide
  have low : ∀ x : Nat, x < 4294967296 → (x / 2).testBit 31 = false := fun x hx => Nat.testBit_lt_two_pow (by omega)
  unfold st at h
  by_cases e : a % 2 = 1 <;> by_cases f : b % 2 = 1
  · rw [if_pos e, if_pos f] at h
    have h1 := congrArg (· ^^^ 3988292384) h
    simp only [Nat.xor_assoc, Nat.xor_self, Nat.xor_zero] at h1
    omega
  · rw [if_pos e, if_neg f] at h
    have h1 := top a ha
    rw [h, low b hb] at h1
    cases h1
  · rw [if_neg e, if_pos f] at h
    have h1 := top b hb
    rw [← h, low a ha] at h1
    cases h1
  · rw [if_neg e, if_neg f] at h
    omega
theorem stN_inj (n a b : Nat) (ha : a < 4294967296) (hb : b < 4294967296) (h : stN n a = stN n b) : a = b := by
  induction n generalizing a b with
  | zero => exact h
  | succ n ih => exact st_inj a b ha hb (ih _ _ (st_lt a ha) (st_lt b hb) h)
end Go.Proofs.Ytpfdgcdhcciilaa
