/- Proved here: guarded steps, and regions in their own order. -/
import Derived.Test.YtnbhgeehlcjmdaaGreatV19
namespace Go.Ev.F
open Go Go.Ev
variable {d : Option Tmp} {m : Nat} {K : K4} {f g : Fr} {h : HT} {nx : Nat} {o : O} {cf yf : CF}

/-- what is known of the name that guards an operation -/
def GR (ι : Mp) (ops : Array Oper) (op : Oper) (look : Nat → Option AV) (tmps : Array Value) : Prop :=
  ∀ j want, op.guard = some (j, want) → ∀ d, dstOf ops.toList j = some d → ∀ v, look d = some v → ∃ x, tmps[d]? = some x ∧ VR ι v x
theorem FR.guard {ι : Mp} {ops : Array Oper} {op : Oper} {look : Nat → Option AV} {tmps : Array Value} (h : FR ι look tmps) : GR ι ops op look tmps := fun _ _ _ d _ v hv => h d v hv
def GSpec (ops : Array Oper) (op : Oper) (m : Nat) (f g : Fr) (h : HT) (nx : Nat) (v : AV) (h' : HT) (nx' : Nat) : Prop :=
  nx ≤ nx' ∧ ∀ (F : Fence), Open F → ∀ (B : Bd) (w0 : World) (ι : Mp) (w : World) (a : Act) (Q : Exit → Act → World → Prop) (next : Act → World → Prop) (i : Nat), ops[i]? = some op → Sim B w0 ι h nx w → nx' ≤ B.hi →
    ERop ι op.op (evalA m f g) a.eval → GR ι ops op (look m f g) a.tmps →
    (∀ ι' x w', Mp.up nx' ι ι' → VR ι' v x → Sim B w0 ι' h' nx' w' → next (a.put op.dst x) w') → wpOpIn F 0 P ops Q i next a w

theorem dstOf_eq (ops : Array Oper) (j : Nat) : dstOf ops.toList j = (ops[j]?).bind (·.dst) := by
  unfold dstOf
  rw [Array.getElem?_toList]
  cases ops[j]? <;> rfl
theorem guarded_inv {ops : List Oper} {yes no : O} {q : Nat × Bool} (ho : o ≠ .fail) (hs : guarded ops m f g yes no q = o) :
    (no = o ∧ dstOf ops q.1 = none) ∨ ∃ d v, dstOf ops q.1 = some d ∧ look m f g d = some v ∧ ((yes = o ∧ v = .bool q.2) ∨ (no = o ∧ v ≠ .bool q.2)) := by
  obtain ⟨j, want⟩ := q
  unfold guarded at hs
  cases hd : dstOf ops j with
  | none =>
    left
    simp only [hd] at hs ⊢
    exact ⟨hs, trivial⟩
  | some d =>
    right
    simp only [hd] at hs
    obtain ⟨v, h1, h2⟩ := getK_inv ho hs
    refine ⟨d, v, rfl, h1, ?_⟩
    cases v with
    | bool b =>
      cases b <;> cases want
      · exact .inl ⟨h2, rfl⟩
      · exact .inr ⟨h2, by intro e; cases e⟩
      · exact .inr ⟨h2, by intro e; cases e⟩
      · exact .inl ⟨h2, rfl⟩
    | _ => exact .inr ⟨h2, by intro e; cases e⟩

theorem VR.notBool {ι : Mp} {v : AV} {b : Bool} (hv : VR ι v (.bool b)) : v = .bool b := by cases hv; rfl
theorem guard_spec {ops : Array Oper} {op : Oper} (hc : CFok cf) (hy : YFok yf) (ho : o ≠ .fail) (hs : guardT op.guard ops.toList op.op cf yf m K op.dst f g h nx = o) :
    ∃ v h' nx', K (putF op.dst v m f g).1 (putF op.dst v m f g).2 h' nx' = o ∧ GSpec ops op m f g h nx v h' nx' := by
  cases hg : op.guard with
  | none =>
    rw [hg] at hs
    obtain ⟨v, h', nx', h1, h2, h3⟩ := step_spec (op := op) hc hy ho hs
    refine ⟨v, h', nx', h1, h2, fun F hF B w0 ι w a Q next i hi S hhi E _ hk => ?_⟩
    unfold wpOpIn
    have hw : Region.wanted op (yielded ops a.tmps) = true := by simp [Region.wanted, hg]
    simp only [hi, hw, if_true]
    exact h3 F hF B w0 ι w a Q next S hhi E hk
  | some q =>
    rw [hg] at hs
    have hs' : guarded ops.toList m f g (stepT op.op cf yf m K op.dst f g h nx) (putK op.dst .dead m K f g h nx) q = o := hs
    have no : putK op.dst .dead m K f g h nx = o → (∀ (ι : Mp) (tmps : Array Value), GR ι ops op (look m f g) tmps → yielded ops tmps q.1 ≠ some q.2) →
        ∃ v h' nx', K (putF op.dst v m f g).1 (putF op.dst v m f g).2 h' nx' = o ∧ GSpec ops op m f g h nx v h' nx' := by
      intro h1 h2
      rw [putK_eq] at h1
      refine ⟨_, _, _, h1, Nat.le_refl _, fun F hF B w0 ι w a Q next i hi S hhi E hG hk => ?_⟩
      unfold wpOpIn
      have hw : Region.wanted op (yielded ops a.tmps) = false := by
        simp only [Region.wanted, hg]
        rw [beq_eq_false_iff_ne]
        exact h2 ι a.tmps hG
      simp only [hi, hw, Bool.false_eq_true, if_false]
      exact ⟨fun f _ => hF.fn f, hk ι undef w (Mp.up.refl _ _) .dead S⟩
    rcases guarded_inv ho hs' with ⟨h1, h2⟩ | ⟨d, v, h1, h2, ⟨h3, h4⟩ | ⟨h3, h4⟩⟩
    · refine no h1 fun ι tmps _ => ?_
      unfold yielded
      rw [← dstOf_eq, h2]
      simp
    · obtain ⟨v', h', nx', k1, k2, k3⟩ := step_spec (op := op) hc hy ho h3
      refine ⟨v', h', nx', k1, k2, fun F hF B w0 ι w a Q next i hi S hhi E hG hk => ?_⟩
      unfold wpOpIn
      obtain ⟨x, hx, hvx⟩ := hG q.1 q.2 hg d h1 v h2
      subst h4
      cases hvx
      have hw : Region.wanted op (yielded ops a.tmps) = true := by
        simp only [Region.wanted, hg, yielded]
        rw [← dstOf_eq, h1]
        simp [hx]
      simp only [hi, hw, if_true]
      exact k3 F hF B w0 ι w a Q next S hhi E hk
    · refine no h3 fun ι tmps hG => ?_
      obtain ⟨x, hx, hvx⟩ := hG q.1 q.2 hg d h1 v h2
      unfold yielded
      rw [← dstOf_eq, h1]
      intro e
      simp only [Option.bind_some, hx] at e
      split at e
      · rename_i b hb
        simp at hb e
        subst hb; subst e
        exact h4 (VR.notBool hvx)
      · cases e

/-! frames behind a step -/
theorem FR.put {ι ι' : Mp} {v : AV} {x : Value} {a : Act} (hf : FR ι (look m f g) a.tmps) (hle : ι.le ι') (hv : VR ι' v x) (hd : ∀ t, d = some t → t < a.tmps.size) :
    FR ι' (look m (putF d v m f g).1 (putF d v m f g).2) (a.put d x).tmps := by
  intro t u ht
  rw [look_put] at ht
  split at ht
  · rename_i e
    simp at ht; subst ht; subst e
    refine ⟨x, ?_, hv⟩
    simp [Act.put, hd t rfl]
  · rename_i e
    obtain ⟨y, hy, hr⟩ := hf t u ht
    refine ⟨y, ?_, hr.mono hle⟩
    cases d with
    | none => exact hy
    | some d =>
      simp only [Act.put]
      rw [Array.getElem?_setIfInBounds, if_neg (fun e' => e (by rw [e']))]
      exact hy
theorem put_size (a : Act) (d : Option Tmp) (x : Value) : (a.put d x).tmps.size = a.tmps.size := by cases d <;> simp [Act.put]
theorem put_defers (a : Act) (d : Option Tmp) (x : Value) : (a.put d x).defers = a.defers := by cases d <;> rfl

/-- what a region comes to -/
def RegSpec (ops : Array Oper) (is : List Nat) (m : Nat) (f g : Fr) (h : HT) (nx : Nat) (f' g' : Fr) (h' : HT) (nx' : Nat) : Prop :=
  nx ≤ nx' ∧ ∀ (F : Fence), Open F → ∀ (B : Bd) (w0 : World) (ι : Mp) (w : World) (a : Act) (Q : Exit → Act → World → Prop), Sim B w0 ι h nx w → nx' ≤ B.hi → FR ι (look m f g) a.tmps → opsFit a.tmps.size ops.toList = true →
    (∀ ι' a' w', Mp.up nx' ι ι' → FR ι' (look m f' g') a'.tmps → a'.tmps.size = a.tmps.size → a'.defers = a.defers → Sim B w0 ι' h' nx' w' → Q .normal a' w') → wpOpsIn F 0 P ops Q is a w

theorem opsK_spec {ops : Array Oper} (hc : CFok cf) (hy : YFok yf) (ho : o ≠ .fail) : ∀ (l : List Oper) (i : Nat) (f g : Fr) (h : HT) (nx : Nat), ops.toList.drop i = l → opsK ops.toList cf yf m O.nrm l f g h nx = o →
    ∃ f' g' h' nx', o = .nrm f' g' h' nx' ∧ RegSpec ops (List.range' i l.length) m f g h nx f' g' h' nx'
  | [], i, f, g, h, nx, _, hs => ⟨f, g, h, nx, hs.symm, Nat.le_refl _, fun F _ B w0 ι w a Q S _ hf _ hk => hk ι a w (Mp.up.refl _ _) hf rfl rfl S⟩
  | op :: l, i, f, g, h, nx, hl, hs => by
    have hs' : guardT op.guard ops.toList op.op cf yf m (opsK ops.toList cf yf m O.nrm l) op.dst f g h nx = o := hs
    obtain ⟨v, h1, n1, hk, hm1, hsp⟩ := guard_spec (ops := ops) (op := op) hc hy ho hs'
    have hl' : ops.toList.drop (i + 1) = l := by
      have := congrArg (List.drop 1) hl
      simpa [Nat.add_comm] using this
    obtain ⟨f', g', h', n', e, hm2, hreg⟩ := opsK_spec hc hy ho l (i + 1) _ _ _ _ hl' hk
    have hi : ops[i]? = some op := by
      have := congrArg (·[0]?) hl
      simpa using this
    refine ⟨f', g', h', n', e, Nat.le_trans hm1 hm2, fun F hF B w0 ι w a Q S hhi hf hfit hK => ?_⟩
    simp only [List.length_cons, List.range'_succ]
    rw [wpOpsIn_cons]
    refine hsp F hF B w0 ι w a Q _ i hi S (Nat.le_trans hm2 hhi) (ER1.op (FR.env hf)) (FR.guard hf) fun ι' x w' hle hv S' => ?_
    have hdst : ∀ t, op.dst = some t → t < a.tmps.size := by
      intro t ht
      have hmem : op ∈ ops.toList := by
        rw [Array.mem_toList_iff]
        exact Array.mem_of_getElem? hi
      have := List.all_eq_true.1 hfit op hmem
      rw [ht] at this
      simpa using this
    refine hreg F hF B w0 ι' w' _ Q S' hhi (FR.put hf hle.1 hv hdst) (by rw [put_size]; exact hfit) fun ι2 a' w2 k1 k2 k3 k4 k5 => ?_
    exact hK ι2 a' w2 (hle.trans k1 hm2) k2 (k3.trans (put_size _ _ _)) (k4.trans (put_defers _ _ _)) k5
theorem ordered_spec {ops : Array Oper} (hc : CFok cf) (hy : YFok yf) (ho : o ≠ .fail) (hs : regionK false ops.toList cf yf m f g h nx = o) :
    ∃ f' g' h' nx', o = .nrm f' g' h' nx' ∧ RegSpec ops (List.range ops.size) m f .nil h nx f' g' h' nx' := by
  have hs' : opsK ops.toList cf yf m O.nrm ops.toList f .nil h nx = o := hs
  obtain ⟨f', g', h', n', e, hr⟩ := opsK_spec (ops := ops) hc hy ho ops.toList 0 f .nil h nx rfl hs'
  refine ⟨f', g', h', n', e, ?_⟩
  rw [List.range_eq_range']
  simpa using hr
end Go.Ev.F
