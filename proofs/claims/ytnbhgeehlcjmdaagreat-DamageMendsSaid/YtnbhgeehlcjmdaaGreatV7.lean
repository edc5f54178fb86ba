/- Proved here: what the reckoner says of operators is what the model does. -/
import Derived.Test.YtnbhgeehlcjmdaaGreatV6
import Derived.Laws.StructEq
namespace Go.Ev
open Go
variable {P : Program} {w w0 : World} {ι : Mp} {B : Bd} {h : HT} {nx : Nat} {ρ : Env} {ρc : Operand → Value} {o : Oper} {r : AV × Ups × Nat}

theorem isInt_spec {t : TypeId} (h : isInt P t = true) : ∃ k, P.underlying t = some (.int k) ∧ sizeT P t = some 1 := by
  unfold isInt at h
  split at h
  · rename_i k h1 h2; exact ⟨k, h1, h2⟩
  · simp at h
theorem isAgg_int {t : TypeId} {k : IntKind} (h : P.underlying t = some (.int k)) : isAggT P t = some false := by
  unfold isAggT; rw [h]
theorem run_part_int {t : TypeId} {c : Array Value} {i : Nat} {x : Value} (h : isInt P t = true) (hx : c[i]? = some x) : (part t c i).run P w = .ok x w := by
  obtain ⟨k, h1, h2⟩ := isInt_spec h
  simp [part, run_isAgg' (isAgg_int h1), hx]
theorem run_equal_int {t : TypeId} {k k' : IntKind} {a b : Int} (d : Nat) (h : isInt P t = true) (hk : k = k') : (Op.equalIn (d + 1) t (.int k a) (.int k' b)).run P w = .ok (a == b) w := by
  obtain ⟨kt, h1, h2⟩ := isInt_spec h
  subst hk
  exact run_equalIn_int w d t k kt a b h1

/-- rows of integers -/
theorem eqInts_len {a b : List AV} {q : Bool} (h : eqInts a b = some q) (hq : q = true) : a.length = b.length := by
  induction a generalizing b with
  | nil => cases b with | nil => rfl | cons => simp [eqInts] at h
  | cons x r ih =>
    cases b with
    | nil => cases x <;> simp [eqInts] at h
    | cons y s =>
      cases x <;> cases y <;> simp [eqInts] at h
      obtain ⟨_, h⟩ := h
      split at h
      · simp [ih h]
      · simp at h; subst h; simp at hq
theorem eqInts_cons {x y : AV} {r s : List AV} {q : Bool} (h : eqInts (x :: r) (y :: s) = some q) : ∃ k a b, x = .int k a ∧ y = .int k b ∧ ((a = b ∧ eqInts r s = some q) ∨ (a ≠ b ∧ q = false)) := by
  cases x <;> cases y <;> simp [eqInts] at h
  obtain ⟨rfl, h⟩ := h
  split at h
  · rename_i e; exact ⟨_, _, _, rfl, rfl, .inl ⟨e, h⟩⟩
  · rename_i e; simp at h; exact ⟨_, _, _, rfl, rfl, .inr ⟨e, h⟩⟩

/-- == of arrays, place by place -/
def eqArr (d : Nat) (e : TypeId) (n : Nat) (xs ys : Array Value) : List Nat → Sem Bool
  | [] => pure true
  | i :: r => do
    let a ← part e xs (i * n)
    let b ← part e ys (i * n)
    let q ← Op.equalIn d e a b
    if (!q) = true then pure false else eqArr d e n xs ys r
theorem run_equalIn_array (d : Nat) (t : TypeId) (xs ys : Array Value) {len n : Nat} {e : TypeId} (ht : P.underlying t = some (.array len e)) (hn : sizeT P e = some n) :
    (Op.equalIn (d + 1) t (.agg xs) (.agg ys)).run P w = (eqArr d e n xs ys (List.range' 0 len 1)).run P w := by
  simp only [Op.equalIn, Sem.run_bind, run_underlying' ht, Result.andThen_ok, run_sizeOf' hn, Std.Legacy.Range.forIn_eq_forIn_range', Std.Legacy.Range.size, Nat.sub_zero, Nat.add_sub_cancel, Nat.div_one]
  generalize List.range' 0 len 1 = fs
  clear ht
  induction fs generalizing w with
  | nil => simp [eqArr]
  | cons f fs ih =>
    simp only [List.forIn_cons, eqArr, Sem.run_bind, Sem.run_ite]
    generalize (part e xs (f * n)).run P w = r1
    cases r1 with
    | ok a w1 =>
      simp only [Result.andThen_ok]
      generalize (part e ys (f * n)).run P w1 = r2
      cases r2 with
      | ok b w2 =>
        simp only [Result.andThen_ok]
        generalize (Op.equalIn d e a b).run P w2 = r3
        cases r3 with
        | ok r w3 =>
          cases r
          · simp only [Result.andThen_ok, Bool.not_false, if_true, Sem.run_pure]
          · simp only [Result.andThen_ok, Bool.not_true, Bool.false_eq_true, if_false, Sem.run_pure]
            exact ih
        | halt x w3 => simp [Result.andThen]
      | halt x w2 => simp [Result.andThen]
    | halt x w1 => simp [Result.andThen]
theorem run_eqArr {e : TypeId} (hi : isInt P e = true) {d : Nat} {l m : List AV} {A C : Array Value} (ha : VRs ι l A.toList) (hb : VRs ι m C.toList) :
    ∀ (k s : Nat) (q : Bool), l.length = s + k → eqInts (l.drop s) (m.drop s) = some q → (eqArr (d + 1) e 1 A C (List.range' s k 1)).run P w = .ok q w
  | 0, s, q, hl, he => by
    have : l.drop s = [] := by rw [List.drop_eq_nil_iff]; omega
    rw [this] at he
    cases hm : m.drop s with
    | nil => rw [hm] at he; simp [eqInts] at he; subst he; simp [eqArr]
    | cons x r => rw [hm] at he; simp [eqInts] at he
  | k + 1, s, q, hl, he => by
    have hlt : s < l.length := by omega
    rw [List.drop_eq_getElem_cons hlt] at he
    cases hm : m.drop s with
    | nil => rw [hm] at he; cases hx : l[s] <;> simp [hx, eqInts] at he
    | cons u m' =>
      rw [hm] at he
      obtain ⟨k1, a, b, hx, rfl, hc⟩ := eqInts_cons he
      have hm0 : m[s]? = some (.int k1 b) := by have := congrArg (·[0]?) hm; simpa using this
      have hm' : m.drop (s + 1) = m' := by have := congrArg (List.drop 1) hm; simpa [Nat.add_comm] using this
      obtain ⟨y, hy, hv⟩ := ha.get (i := s) (a := .int k1 a) (by simp [hlt, hx])
      obtain ⟨z, hz, hv'⟩ := hb.get hm0
      cases hv; cases hv'
      have hy' : A[s]? = some (.int k1 a) := by simpa using hy
      have hz' : C[s]? = some (.int k1 b) := by simpa using hz
      simp only [List.range'_succ, eqArr, Nat.mul_one, Sem.run_bind, run_part_int hi hy', run_part_int hi hz', Result.andThen_ok, run_equal_int d hi rfl, Sem.run_ite]
      rcases hc with ⟨rfl, h2⟩ | ⟨hne, rfl⟩
      · simp only [beq_self_eq_true, Bool.not_true, Bool.false_eq_true, if_false]
        exact run_eqArr hi ha hb k (s + 1) q (by omega) (by rw [hm']; exact h2)
      · have : (a == b) = false := by simp [hne]
        simp [this]
theorem run_equal_arr {t : TypeId} {n d : Nat} {l m : List AV} {A C : Array Value} {q : Bool} (hf : flatArr P t = some n) (hl : l.length = n) (ha : VRs ι l A.toList) (hb : VRs ι m C.toList) (he : eqInts l m = some q) :
    (Op.equalIn (d + 2) t (.agg A) (.agg C)).run P w = .ok q w := by
  unfold flatArr at hf
  split at hf
  · rename_i len e hd
    split at hf
    · rename_i hi
      simp at hf; subst hf
      obtain ⟨k, h1, h2⟩ := isInt_spec hi
      rw [run_equalIn_array (d + 1) t A C hd h2]
      exact run_eqArr hi ha hb len 0 q (by omega) (by simpa using he)
    · simp at hf
  · simp at hf

/-- == of structs whose fields are integers -/
theorem run_eqFields {d : Nat} {l m : List AV} {A C : Array Value} (ha : VRs ι l A.toList) (hb : VRs ι m C.toList) :
    ∀ (fs : List Field) (s : Nat) (q : Bool), flatFields P s fs = true → l.length = s + fs.length → eqInts (l.drop s) (m.drop s) = some q → (Op.eqFields (d + 1) A C fs).run P w = .ok q w
  | [], s, q, _, hl, he => by
    have : l.drop s = [] := by rw [List.drop_eq_nil_iff]; simp at hl; omega
    rw [this] at he
    cases hm : m.drop s with
    | nil => rw [hm] at he; simp [eqInts] at he; subst he; simp [Op.eqFields]
    | cons x r => rw [hm] at he; simp [eqInts] at he
  | f :: fs, s, q, hf, hl, he => by
    simp only [flatFields, Bool.and_eq_true, beq_iff_eq, bne_iff_ne] at hf
    obtain ⟨⟨⟨hi, ho⟩, hn⟩, hf⟩ := hf
    have hlt : s < l.length := by simp at hl; omega
    rw [List.drop_eq_getElem_cons hlt] at he
    cases hm : m.drop s with
    | nil => rw [hm] at he; cases hx : l[s] <;> simp [hx, eqInts] at he
    | cons u m' =>
      rw [hm] at he
      obtain ⟨k1, a, b, hx, rfl, hc⟩ := eqInts_cons he
      have hm0 : m[s]? = some (.int k1 b) := by have := congrArg (·[0]?) hm; simpa using this
      have hm' : m.drop (s + 1) = m' := by have := congrArg (List.drop 1) hm; simpa [Nat.add_comm] using this
      obtain ⟨y, hy, hv⟩ := ha.get (i := s) (a := .int k1 a) (by simp [hlt, hx])
      obtain ⟨z, hz, hv'⟩ := hb.get hm0
      cases hv; cases hv'
      have hy' : A[s]? = some (.int k1 a) := by simpa using hy
      have hz' : C[s]? = some (.int k1 b) := by simpa using hz
      simp only [Op.eqFields, ne_eq, hn, not_false_eq_true, if_true, ho, Sem.run_bind, run_part_int hi hy', run_part_int hi hz', Result.andThen_ok, run_equal_int d hi rfl, Sem.run_ite]
      rcases hc with ⟨rfl, h2⟩ | ⟨hne, rfl⟩
      · simp only [beq_self_eq_true, Bool.not_true, Bool.false_eq_true, if_false]
        exact run_eqFields ha hb fs (s + 1) q hf (by simp at hl; omega) (by rw [hm']; exact h2)
      · have : (a == b) = false := by simp [hne]
        simp [this]
theorem run_equal_flat {t : TypeId} {n d : Nat} {l m : List AV} {A C : Array Value} {q : Bool} (hf : flatT P t = some n) (hl : l.length = n) (ha : VRs ι l A.toList) (hb : VRs ι m C.toList) (he : eqInts l m = some q) :
    (Op.equalIn (d + 2) t (.agg A) (.agg C)).run P w = .ok q w := by
  unfold flatT at hf
  split at hf
  · rename_i fs hd
    split at hf
    · rename_i hc
      simp only [Bool.and_eq_true, Bool.not_eq_true'] at hc
      simp at hf; subst hf
      have hfs : P.fieldsOf t = fs := by simp [Program.fieldsOf, hd]
      rw [run_equalIn_agg w (d + 1) t A C (by rw [hfs]; exact hd) hc.2, hfs]
      exact run_eqFields ha hb fs.toList 0 q hc.1 (by simp; omega) (by simpa using he)
    · simp at hf
  · exact run_equal_arr hf hl ha hb he

/-- what stands ahead of == -/
theorem eqGuardType_flat {t : TypeId} {n : Nat} (hf : flatT P t = some n) : P.eqGuardType P.depth t = false := by
  have hint : ∀ e d, isInt P e = true → P.eqGuardType (d + 1) e = false := fun e d hi => by
    obtain ⟨k, h1, _⟩ := isInt_spec hi
    simp [Program.eqGuardType, h1]
  have hdep : ∃ d, P.depth = d + 2 := ⟨2 * (P.types.size + Made.depth), by simp [Program.depth]⟩
  obtain ⟨d, hd⟩ := hdep
  rw [hd]
  unfold flatT at hf
  split at hf
  · rename_i fs hdd
    split at hf
    · rename_i hc
      simp only [Bool.and_eq_true] at hc
      have hall : ∀ (l : List Field) (s : Nat), flatFields P s l = true → l.any (fun f => f.name != "_" && P.eqGuardType (d + 1) f.type) = false := by
        intro l
        induction l with
        | nil => simp
        | cons f l ih =>
          intro s hs
          simp only [flatFields, Bool.and_eq_true] at hs
          simp only [List.any_cons, hint f.type d hs.1.1.1, Bool.and_false, Bool.false_or]
          exact ih _ hs.2
      have := hall fs.toList 0 hc.1
      simp only [Program.eqGuardType, hdd]
      rw [← Array.any_toList]; exact this
    · simp at hf
  · unfold flatArr at hf
    split at hf
    · rename_i len e hdd
      split at hf
      · rename_i hi
        unfold Program.eqGuardType; rw [hdd]; exact hint e d hi
      · simp at hf
    · simp at hf

/-- a value that is no struct and no nil interface -/
def plainV : Value → Bool
  | .agg _ | .nilIface => false
  | _ => true
theorem run_guard_plain (op : BinOp) (t : TypeId) (x y : Operand) {a b : Value} (h : plainV a = true ∨ plainV b = true) : (eqGuard op t x y a b).run P w = .ok () w := by
  unfold eqGuard
  split <;> first | (simp only [Bool.not_false, if_true, Sem.run_pure]; done) | simp only [Bool.not_true, Bool.false_eq_true, if_false]
  all_goals
    split
    · rcases h with h | h <;> simp [plainV] at h
    · rcases h with h | h <;> simp [plainV] at h
    · rfl
theorem run_bits {op : BinOp} {k : IntKind} {a b n : Int} (h : bitsA op k a b = some n) : (Op.intBits op k a b).run P w = .ok (.int k n) w := by
  unfold bitsA at h
  split at h <;> first
    | (simp at h; subst h; simp [Op.intBits]; done)
    | simp at h
theorem run_binInt {op : BinOp} {k : IntKind} {a b : Int} {v : AV} (t : TypeId) (hs : isShift op = false) (h : binInt op k a b = some v) : ∃ x, (binOp op t (.int k a) (.int k b)).run P w = .ok x w ∧ VR ι v x := by
  unfold binInt at h
  split at h
  · simp at h; subst h; exact ⟨_, by simp [binOp, Op.intArith], .int _ _⟩
  · simp at h; subst h; exact ⟨_, by simp [binOp, Op.intArith], .int _ _⟩
  · simp at h; subst h; exact ⟨_, by simp [binOp, Op.intArith], .int _ _⟩
  · split at h
    · simp at h
    · rename_i hb; simp at h; subst h; exact ⟨_, by simp [binOp, Op.intDiv, hb], .int _ _⟩
  · split at h
    · simp at h
    · rename_i hb; simp at h; subst h; exact ⟨_, by simp [binOp, Op.intDiv, hb], .int _ _⟩
  · simp at h; subst h; exact ⟨_, by simp [binOp, Op.intCmp], .bool _⟩
  · simp at h; subst h; exact ⟨_, by simp [binOp, Op.intCmp], .bool _⟩
  · simp at h; subst h; exact ⟨_, by simp [binOp, Op.intCmp], .bool _⟩
  · simp at h; subst h; exact ⟨_, by simp [binOp, Op.intCmp], .bool _⟩
  · simp at h; subst h; exact ⟨_, by simp [binOp, Op.intCmp], .bool _⟩
  · simp at h; subst h; exact ⟨_, by simp [binOp, Op.intCmp], .bool _⟩
  · split at h
    · rename_i n hn
      simp at h; subst h
      have hr := run_bits (P := P) (w := w) hn
      refine ⟨_, ?_, .int _ _⟩
      cases op <;> simp_all [binOp, isShift, bitsA]
    · simp at h


theorem eqA_run {t : TypeId} {a b : AV} {x y : Value} {q : Bool} (op : BinOp) (X Y : Operand) (ha : VR ι a x) (hb : VR ι b y) (he : eqA P t a b = some q) (hop : op = .eql ∨ op = .neq) :
    (do eqGuard op t X Y x y; binOp op t x y : Sem Value).run P w = .ok (.bool (if op = .eql then q else !q)) w := by
  have main : ∀ {z : Bool}, (eqGuard op t X Y x y).run P w = .ok () w → (Op.equal t x y).run P w = .ok z w → (∀ op', (op' = .eql ∨ op' = .neq) → binOp op' t x y = (do let r ← Op.equal t x y; pure (.bool (if op' = .eql then r else !r)))) →
      (do eqGuard op t X Y x y; binOp op t x y : Sem Value).run P w = .ok (.bool (if op = .eql then z else !z)) w := by
    intro z h1 h2 h3
    simp only [Sem.run_bind, h1, Result.andThen_ok, h3 op hop, h2, Sem.run_pure]
  unfold eqA at he
  split at he <;> try (simp at he; done)
  case h_14 d l m hd =>
    split at he
    · rename_i hc
      cases ha with
      | agg ha =>
        cases hb with
        | agg hb =>
          refine main (run_eqGuard_agg w op t X Y _ _ (eqGuardType_flat hc.1)) (run_equal_flat (d := 9998) hc.1 rfl ha hb he) ?_
          intro op' ho; rcases ho with rfl | rfl <;> simp [binOp]
    · simp at he
  all_goals
    rename_i hd
    simp at he; subst he
    cases ha <;> cases hb <;>
    (refine main (run_guard_plain op t X Y (by simp [plainV])) ?_ ?_ <;>
      first
        | (intro op' ho; rcases ho with rfl | rfl <;> simp [binOp]; done)
        | (show (Op.equalIn (9999 + 1) t _ _).run P w = _; unfold Op.equalIn; simp only [Sem.run_bind, run_underlying' hd, Result.andThen_ok]; rfl))
end Go.Ev
