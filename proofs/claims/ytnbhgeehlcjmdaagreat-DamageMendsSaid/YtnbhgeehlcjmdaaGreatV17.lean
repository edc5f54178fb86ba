/- Proved here: what the kernel's run does at numbers, operators and steps. -/
import Derived.Test.YtnbhgeehlcjmdaaGreatV16
import Derived.Laws.BitsLemmas
namespace Go.Ev.F
open Go Go.Ev

theorem forceN_eq (n : Nat) (κ : KN) : forceN n κ = κ n := by cases n <;> rfl
theorem posK_eq (n : Nat) (k : IntKind) (κ : KV) : posK n k κ = κ (.int k (.ofNat n)) := forceN_eq n _
theorem negK_eq (n : Nat) (k : IntKind) (κ : KV) : negK n k κ = κ (.int k (.negSucc n)) := forceN_eq n _
theorem intK_eq (i : Int) (k : IntKind) (κ : KV) : intK i k κ = κ (.int k i) := by
  cases i with
  | ofNat n => exact posK_eq n k κ
  | negSucc n => exact negK_eq n k κ
theorem wrapSlow_eq (k : IntKind) (n : Int) (κ : KV) : wrapSlow k n κ = κ (.int k (k.wrap n)) := intK_eq _ _ _
theorem w64_aux (c : Nat) (m : Nat) (x y z : O) (h0 : x = z) (h1 : m < c → y = z) : Bool.rec (motive := fun _ => O) x y (Nat.blt m c) = z := by
  cases hb : Nat.blt m c with
  | false => exact h0
  | true => exact h1 (by rw [Nat.blt_eq] at hb; exact hb)
theorem w64_eq (n : Int) (κ : KV) : w64 n κ = κ (.int .i64 (IntKind.i64.wrap n)) := by
  cases n with
  | ofNat m =>
    refine w64_aux 9223372036854775808 m _ _ _ (wrapSlow_eq _ _ _) fun hlt => ?_
    rw [posK_eq, IntKind.wrap_i64]
    refine congrArg κ (congrArg (AV.int IntKind.i64) ?_)
    simp only [Int.ofNat_eq_natCast]
    omega
  | negSucc m =>
    refine w64_aux 9223372036854775808 m _ _ _ (wrapSlow_eq _ _ _) fun hlt => ?_
    rw [negK_eq, IntKind.wrap_i64]
    refine congrArg κ (congrArg (AV.int IntKind.i64) ?_)
    rw [Int.negSucc_eq]
    omega
theorem wu_eq (k : IntKind) (b : Nat) (hb : ∀ m : Nat, k.wrap m = ((m % b : Nat) : Int)) (n : Int) (κ : KV) : wu k b n κ = κ (.int k (k.wrap n)) := by
  cases n with
  | ofNat m =>
    have h : wu k b (.ofNat m) κ = posK (Nat.mod m b) k κ := rfl
    rw [h, posK_eq]
    congr 2
    exact (hb m).symm
  | negSucc m => exact wrapSlow_eq _ _ _
theorem wrapK_eq (k : IntKind) (n : Int) (κ : KV) : wrapK k n κ = κ (.int k (k.wrap n)) := by
  cases k with
  | i8 => exact wrapSlow_eq _ _ _
  | i16 => exact wrapSlow_eq _ _ _
  | i32 => exact wrapSlow_eq _ _ _
  | i64 => exact w64_eq _ _
  | u8 => exact wu_eq _ _ (fun m => by simp [IntKind.wrap, IntKind.signed, IntKind.bits]) _ _
  | u16 => exact wu_eq _ _ (fun m => by simp [IntKind.wrap, IntKind.signed, IntKind.bits]) _ _
  | u32 => exact wu_eq _ _ (fun m => by simp [IntKind.wrap, IntKind.signed, IntKind.bits]) _ _
  | u64 => exact wu_eq _ _ (fun m => by simp [IntKind.wrap, IntKind.signed, IntKind.bits]) _ _
theorem boolK_eq (b : Bool) (κ : KV) : boolK b κ = κ (.bool b) := by cases b <;> rfl
theorem addI_eq (a b : Int) : addI a b = a + b := by cases a <;> cases b <;> rfl
theorem subNN_eq (m n : Nat) : subNN m n = (m : Int) - n := by
  unfold subNN
  cases h : Nat.ble n m with
  | true =>
    have := Nat.le_of_ble_eq_true h
    show (Int.ofNat (m - n)) = _
    simp only [Int.ofNat_eq_natCast]; omega
  | false =>
    have hlt : ¬ n ≤ m := fun e => by rw [Nat.ble_eq_true_of_le e] at h; cases h
    show Nat.rec (motive := fun _ => Int) (.ofNat 0) (fun d _ => .negSucc d) (Nat.sub n m) = _
    obtain ⟨d, hd⟩ : ∃ d, Nat.sub n m = d + 1 := ⟨n - m - 1, by show n - m = _; omega⟩
    rw [hd]
    show Int.negSucc d = _
    have : n - m = d + 1 := hd
    rw [Int.negSucc_eq]; omega
theorem subI_eq (a b : Int) : subI a b = a - b := by
  cases a with
  | ofNat m => cases b with
    | ofNat n => exact subNN_eq m n
    | negSucc n =>
      show Int.ofNat (Nat.add m (Nat.succ n)) = _
      rw [Int.negSucc_eq]
      show ((m + (n + 1) : Nat) : Int) = _
      simp only [Int.ofNat_eq_natCast]; omega
  | negSucc m => rfl
theorem ltI_eq (a b : Int) : ltI a b = decide (a < b) := by
  cases a with
  | ofNat m => cases b with
    | ofNat n =>
      show Nat.blt m n = _
      rw [Bool.eq_iff_iff]; simp [Nat.blt_eq]
    | negSucc n =>
      show false = _
      symm; rw [decide_eq_false_iff_not, Int.negSucc_eq]; simp only [Int.ofNat_eq_natCast]; omega
  | negSucc m => cases b with
    | ofNat n =>
      show true = _
      symm; rw [decide_eq_true_eq, Int.negSucc_eq]; simp only [Int.ofNat_eq_natCast]; omega
    | negSucc n =>
      show Nat.blt n m = _
      rw [Bool.eq_iff_iff, decide_eq_true_eq, Nat.blt_eq, Int.negSucc_eq, Int.negSucc_eq]; omega
theorem eqI_eq (a b : Int) : eqI a b = (a == b) := by
  cases a with
  | ofNat m => cases b with
    | ofNat n =>
      show Nat.beq m n = _
      rw [Bool.eq_iff_iff, Nat.beq_eq, beq_iff_eq]; simp only [Int.ofNat_eq_natCast]; omega
    | negSucc n =>
      show false = _
      symm; rw [beq_eq_false_iff_ne]; intro e; cases e
  | negSucc m => cases b with
    | ofNat n =>
      show false = _
      symm; rw [beq_eq_false_iff_ne]; intro e; cases e
    | negSucc n =>
      show Nat.beq n m = _
      rw [Bool.eq_iff_iff, Nat.beq_eq, beq_iff_eq, Int.negSucc_eq, Int.negSucc_eq]; omega
theorem kindN_inj {k k' : IntKind} (h : Nat.beq (kindN k) (kindN k') = true) : k = k' := by
  cases k <;> cases k' <;> first | rfl | (exact absurd h (by decide))
theorem binTable_inv {op : BinOp} {k : IntKind} {a b : Int} {κ : KV} {o : O} (ho : o ≠ .fail) (h : binTable op k a b κ = o) :
    ∃ v, (if isShift op then shiftA op k a b else binInt op k a b) = some v ∧ κ v = o := by
  cases op with
  | add => refine ⟨_, rfl, ?_⟩; rw [← h]; show _ = bAdd k a b κ; rw [bAdd, wrapK_eq, addI_eq]
  | sub => refine ⟨_, rfl, ?_⟩; rw [← h]; show _ = bSub k a b κ; rw [bSub, wrapK_eq, subI_eq]
  | eql => refine ⟨_, rfl, ?_⟩; rw [← h]; show _ = bEq k a b κ; rw [bEq, boolK_eq, eqI_eq]
  | neq => refine ⟨_, rfl, ?_⟩; rw [← h]; show _ = bNe k a b κ; rw [bNe, boolK_eq, eqI_eq]; rfl
  | lss => refine ⟨_, rfl, ?_⟩; rw [← h]; show _ = bLt k a b κ; rw [bLt, boolK_eq, ltI_eq]
  | leq => refine ⟨_, rfl, ?_⟩; rw [← h]; show _ = bLe k a b κ; rw [bLe, boolK_eq, ltI_eq]; congr 2; by_cases e : a ≤ b <;> simp [e] <;> omega
  | gtr => refine ⟨_, rfl, ?_⟩; rw [← h]; show _ = bGt k a b κ; rw [bGt, boolK_eq, ltI_eq]
  | geq => refine ⟨_, rfl, ?_⟩; rw [← h]; show _ = bGe k a b κ; rw [bGe, boolK_eq, ltI_eq]; congr 2; by_cases e : b ≤ a <;> simp [e] <;> omega
  | _ => exact optK_inv ho h
theorem slow2_inv {op : BinOp} {t : TypeId} {x y : AV} {κ : KV} {o : O} (ho : o ≠ .fail) (h : slow2 x y op t κ = o) : ∃ v, binA P op t x y = some v ∧ κ v = o := optK_inv ho h
theorem binX_inv {op : BinOp} {t : TypeId} {x y : AV} {κ : KV} {o : O} (ho : o ≠ .fail) (h : binX x y op t κ = o) : ∃ v, binA P op t x y = some v ∧ κ v = o := by
  cases x with
  | int k a =>
    cases y with
    | int k' b =>
      have h' : bin2 k' b k a op t κ = o := h
      unfold bin2 at h'
      cases hb : Nat.beq (kindN k) (kindN k') with
      | false => rw [hb] at h'; exact slow2_inv ho h'
      | true =>
        rw [hb] at h'
        have := kindN_inj hb
        subst this
        obtain ⟨v, h1, h2⟩ := binTable_inv ho h'
        refine ⟨v, ?_, h2⟩
        simp only [binA, if_true]
        exact h1
    | _ => exact absurd h.symm ho
  | dead => exact absurd h.symm ho
  | yld => exact absurd h.symm ho
  | tup => exact absurd h.symm ho
  | _ => exact slow2_inv ho h
end Go.Ev.F
