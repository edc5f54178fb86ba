/- Proved here: a step of the kernel's run, and a region in its own order, are what the model does. -/
import Derived.Test.YtnbhgeehlcjmdaaGreatV18
import Derived.Test.YtnbhgeehlcjmdaaGreatV15
import Derived.RangeFuncLeaves
import Derived.OrdersIn
namespace Go.Ev.F
open Go Go.Ev

/-! the next number only grows -/
theorem opS_mono {P : Program} {ρ : Env} {op : Op} {h : HT} {nx : Nat} {r : AV × Ups × Nat} (hr : opS P ρ op h nx = some r) : nx ≤ r.2.2 := by
  unfold opS at hr
  split at hr <;> (try (simp at hr; done)) <;>
    (first
      | unfold oMove at hr | unfold oPick oMove at hr | unfold oAlloc at hr | unfold oBox at hr | unfold oBuild at hr | unfold oBuildSlice at hr | unfold oLoad at hr | unfold oStore at hr
      | unfold oNil at hr | unfold oBin at hr | unfold oUn at hr | unfold oConv convA at hr | unfold oFunc at hr | unfold oMakeMap at hr | unfold oMakeSlice at hr | unfold oSlice at hr
      | unfold oFieldAddr at hr | unfold oField at hr | unfold oIndexAddr at hr | unfold oIndex at hr | unfold oLookup at hr | unfold oUpdate at hr | unfold oEntry at hr | unfold oStamp at hr | unfold oExtract at hr
      | unfold oBuiltin bLen bCap bAppend appendA appendB bMin bMax bCopy bClear at hr) <;>
    (repeat' split at hr) <;> first
      | (simp at hr; done)
      | (simp at hr; subst hr; simp; done)
      | (simp at hr; obtain ⟨_, hr⟩ := hr; subst hr; simp; done)
      | skip
/-- fences that let all in -/
def Open (F : Fence) : Prop := F = Fence.wide ∨ ∃ l, F = Fence.wide.inRound l
theorem Open.fn {F : Fence} (h : Open F) (f : FuncId) : F.fn f := by rcases h with rfl | ⟨l, rfl⟩ <;> trivial
theorem Open.depth {F : Fence} (h : Open F) : F.depth = none := by rcases h with rfl | ⟨l, rfl⟩ <;> rfl
theorem Open.calls {F : Fence} (h : Open F) {f : FuncId} {vs : Array Value} {w : World} {R : Ending → World → Prop} (hc : CallsIn Fence.wide 0 P f vs w R) : CallsIn F 0 P f vs w R := by
  rcases h with rfl | ⟨l, rfl⟩ <;> exact hc
theorem Open.round {F : Fence} (h : Open F) {l : Nat} {f : FuncId} {tmps : Array Value} {x y : Code} {w : World} {R : Ending → World → Prop} (hc : RoundIn Fence.wide 0 P l f tmps x y w R) : RoundIn F 0 P l f tmps x y w R := by
  rcases h with rfl | ⟨l, rfl⟩ <;> exact hc

/-- a function that one can call -/
def Callable (fi : Nat) : Prop := ∃ fn, P.funcs[fi]? = some fn ∧ fn.body.isNone = false ∧ (fn.name == "runtime.NumGoroutine") = false
/-- what a call comes to -/
def CallSpec (fi : Nat) (args : List AV) (h : HT) (nx : Nat) (v : AV) (h' : HT) (nx' : Nat) : Prop :=
  Callable fi ∧ nx ≤ nx' ∧ ∀ (B : Bd) (w0 : World) (ι : Mp) (w : World) (vs : Array Value), Sim B w0 ι h nx w → nx' ≤ B.hi → VRs ι args vs.toList →
    CallsIn Fence.wide 0 P fi vs w (fun e w' => ∃ x ι', e = .returned x ∧ Mp.up nx' ι ι' ∧ VR ι' v x ∧ Sim B w0 ι' h' nx' w')
def CFok (cf : CF) : Prop := ∀ fi args h nx κ o, o ≠ .fail → cf fi args h nx κ = o → ∃ v h' nx', κ v h' nx' = o ∧ CallSpec fi args h nx v h' nx'
def YieldSpec (l : Nat) (args : List AV) (h : HT) (nx : Nat) (v : AV) (h' : HT) (nx' : Nat) : Prop :=
  nx ≤ nx' ∧ ∀ (B : Bd) (w0 : World) (ι : Mp) (w : World) (vs : Array Value) (p : Place), Sim B w0 ι h nx w → nx' ≤ B.hi → VRs ι args vs.toList → ι l = some p →
    ∃ f tmps x y w1, (Instr.yield p.blk vs).run P w = .ok (.round p.blk f tmps x y) w1 ∧ RoundIn Fence.wide 0 P p.blk f tmps x y w1 (fun e w' => ∃ x ι', e = .returned x ∧ Mp.up nx' ι ι' ∧ VR ι' v x ∧ Sim B w0 ι' h' nx' w')
def YFok (yf : CF) : Prop := ∀ l args h nx κ o, o ≠ .fail → yf l args h nx κ = o → ∃ v h' nx', κ v h' nx' = o ∧ YieldSpec l args h nx v h' nx'

variable {d : Option Tmp} {m : Nat} {K : K4} {f g : Fr} {h : HT} {nx : Nat} {o : O} {cf yf : CF}
theorem FR.env {ι : Mp} {a : Act} (hf : FR ι (look m f g) a.tmps) : ER1 ι (evalA m f g) a.eval := by
  intro x v hv
  cases x with
  | tmp t =>
    obtain ⟨x, hx, hr⟩ := hf t v hv
    simp only [Act.eval, Array.getD_eq_getD_getElem?, hx, Option.getD_some]; exact hr
  | const c => exact VR.ofValue hv
  | global g => simp [evalA] at hv
  | func fi =>
    simp [evalA] at hv; subst hv
    exact .fn fi (A := #[]) (C := #[]) .nil .nil

open Classical in
/-- what is known of an operation's operands -/
noncomputable def cutE (op : Op) (ρ : Env) : Env := fun x => if x ∈ op.operands then ρ x else none
theorem cutE_in {op : Op} {ρ : Env} {x : Operand} (hx : x ∈ op.operands) : cutE op ρ x = ρ x := by simp [cutE, hx]
def ERop (ι : Mp) (op : Op) (ρ : Env) (ρc : Operand → Value) : Prop := ∀ x ∈ op.operands, ∀ v, ρ x = some v → VR ι v (ρc x)
theorem ERop.cut {ι : Mp} {op : Op} {ρ : Env} {ρc : Operand → Value} (h : ERop ι op ρ ρc) : ER1 ι (cutE op ρ) ρc := by
  intro x v hv
  unfold cutE at hv
  split at hv
  · rename_i hx; exact h x hx v hv
  · simp at hv
theorem ER1.op {ι : Mp} {op : Op} {ρ : Env} {ρc : Operand → Value} (h : ER1 ι ρ ρc) : ERop ι op ρ ρc := fun x _ v hv => h x v hv
theorem argsA_cut {op : Op} {ρ : Env} : ∀ {l : List Operand}, (∀ x ∈ l, x ∈ op.operands) → argsA (cutE op ρ) l = argsA ρ l
  | [], _ => rfl
  | x :: l, h => by simp only [argsA, cutE_in (h x (by simp)), argsA_cut (l := l) (fun y hy => h y (by simp [hy]))]
theorem partsA_cut {op : Op} {ρ : Env} : ∀ {l : List (Nat × Operand)}, (∀ p ∈ l, p.2 ∈ op.operands) → partsA (cutE op ρ) l = partsA ρ l
  | [], _ => rfl
  | (i, x) :: l, h => by simp only [partsA, cutE_in (h (i, x) (by simp)), partsA_cut (l := l) (fun y hy => h y (by simp [hy]))]
theorem optA_cut {op : Op} {ρ : Env} {x : Option Operand} (h : ∀ y, x = some y → y ∈ op.operands) : optA (cutE op ρ) x = optA ρ x := by
  cases x with
  | none => rfl
  | some y => simp only [optA, cutE_in (h y rfl)]
theorem opS_cut {P : Program} {op : Op} {ρ : Env} {h : HT} {nx : Nat} : opS P (cutE op ρ) op h nx = opS P ρ op h nx := by
  cases op with
  | move x => simp only [opS, oMove, cutE_in (op := .move x) (x := x) (by simp [Op.operands])]
  | assign x => simp only [opS, oMove, cutE_in (op := .assign x) (x := x) (by simp [Op.operands])]
  | pick c a b => simp only [opS, oPick, oMove, cutE_in (op := .pick c a b) (x := c) (by simp [Op.operands]), cutE_in (op := .pick c a b) (x := a) (by simp [Op.operands]), cutE_in (op := .pick c a b) (x := b) (by simp [Op.operands])]
  | box t x => simp only [opS, oBox, cutE_in (op := .box t x) (x := x) (by simp [Op.operands])]
  | build t ps => simp only [opS, oBuild]; rw [partsA_cut (fun p hp => by simp [Op.operands]; exact ⟨p.1, by simpa using hp⟩)]
  | buildSlice t n ps => simp only [opS, oBuildSlice]; rw [partsA_cut (fun p hp => by simp [Op.operands]; exact ⟨p.1, by simpa using hp⟩)]
  | load t a => simp only [opS, oLoad, cutE_in (op := .load t a) (x := a) (by simp [Op.operands])]
  | store t a x => simp only [opS, oStore, cutE_in (op := .store t a x) (x := a) (by simp [Op.operands]), cutE_in (op := .store t a x) (x := x) (by simp [Op.operands])]
  | nilCheck x => simp only [opS, oNil, cutE_in (op := .nilCheck x) (x := x) (by simp [Op.operands])]
  | binOp o t x y u => simp only [opS, oBin, cutE_in (op := .binOp o t x y u) (x := x) (by simp [Op.operands]), cutE_in (op := .binOp o t x y u) (x := y) (by simp [Op.operands])]
  | unOp o t x => simp only [opS, oUn, cutE_in (op := .unOp o t x) (x := x) (by simp [Op.operands])]
  | convert s t x => simp only [opS, oConv, cutE_in (op := .convert s t x) (x := x) (by simp [Op.operands])]
  | makeFunc fn a b =>
    simp only [opS, oFunc]
    rw [argsA_cut (fun x hx => by simp [Op.operands]; exact .inl (by simpa using hx)), argsA_cut (fun x hx => by simp [Op.operands]; exact .inr (by simpa using hx))]
  | makeMap t r =>
    cases r with
    | none => rfl
    | some x => simp only [opS, oMakeMap, cutE_in (op := .makeMap t (some x)) (x := x) (by simp [Op.operands])]
  | makeSlice t l c => simp only [opS, oMakeSlice, cutE_in (op := .makeSlice t l c) (x := l) (by simp [Op.operands]), cutE_in (op := .makeSlice t l c) (x := c) (by simp [Op.operands])]
  | slice t x lo hi mx =>
    simp only [opS, oSlice, cutE_in (op := .slice t x lo hi mx) (x := x) (by simp [Op.operands])]
    rw [optA_cut (fun y e => by subst e; simp [Op.operands]), optA_cut (fun y e => by subst e; simp [Op.operands]), optA_cut (fun y e => by subst e; simp [Op.operands])]
  | fieldAddr s x i => simp only [opS, oFieldAddr, cutE_in (op := .fieldAddr s x i) (x := x) (by simp [Op.operands])]
  | field s x i => simp only [opS, oField, cutE_in (op := .field s x i) (x := x) (by simp [Op.operands])]
  | indexAddr t x i => simp only [opS, oIndexAddr, cutE_in (op := .indexAddr t x i) (x := x) (by simp [Op.operands]), cutE_in (op := .indexAddr t x i) (x := i) (by simp [Op.operands])]
  | index t x i => simp only [opS, oIndex, cutE_in (op := .index t x i) (x := x) (by simp [Op.operands]), cutE_in (op := .index t x i) (x := i) (by simp [Op.operands])]
  | lookup t x i ok => simp only [opS, oLookup, cutE_in (op := .lookup t x i ok) (x := x) (by simp [Op.operands]), cutE_in (op := .lookup t x i ok) (x := i) (by simp [Op.operands])]
  | mapUpdate t a k v => simp only [opS, oUpdate, cutE_in (op := .mapUpdate t a k v) (x := a) (by simp [Op.operands]), cutE_in (op := .mapUpdate t a k v) (x := k) (by simp [Op.operands]), cutE_in (op := .mapUpdate t a k v) (x := v) (by simp [Op.operands])]
  | insert t a k v => simp only [opS, oUpdate, cutE_in (op := .insert t a k v) (x := a) (by simp [Op.operands]), cutE_in (op := .insert t a k v) (x := k) (by simp [Op.operands]), cutE_in (op := .insert t a k v) (x := v) (by simp [Op.operands])]
  | mapEntry t a k => simp only [opS, oEntry, cutE_in (op := .mapEntry t a k) (x := a) (by simp [Op.operands]), cutE_in (op := .mapEntry t a k) (x := k) (by simp [Op.operands])]
  | entryStore t a s v => simp only [opS, oStamp, cutE_in (op := .entryStore t a s v) (x := a) (by simp [Op.operands]), cutE_in (op := .entryStore t a s v) (x := s) (by simp [Op.operands]), cutE_in (op := .entryStore t a s v) (x := v) (by simp [Op.operands])]
  | extract t i => simp only [opS, oExtract, cutE_in (op := .extract t i) (x := t) (by simp [Op.operands])]
  | call c =>
    cases hc : c.callee with
    | builtin b => simp only [opS, hc, oBuiltin]; rw [argsA_cut (fun x hx => by simp [Op.operands, Call.operands]; exact .inr (by simpa using hx))]
    | _ => simp only [opS, hc]
  | _ => rfl

/-- what an operation comes to: its value, the heap, the next number -/
def OpSpec (op : Oper) (m : Nat) (f g : Fr) (h : HT) (nx : Nat) (v : AV) (h' : HT) (nx' : Nat) : Prop :=
  nx ≤ nx' ∧ ∀ (F : Fence), Open F → ∀ (B : Bd) (w0 : World) (ι : Mp) (w : World) (a : Act) (Q : Exit → Act → World → Prop) (next : Act → World → Prop), Sim B w0 ι h nx w → nx' ≤ B.hi → ERop ι op.op (evalA m f g) a.eval →
    (∀ ι' x w', Mp.up nx' ι ι' → VR ι' v x → Sim B w0 ι' h' nx' w' → next (a.put op.dst x) w') → op.wpIn F 0 P a w next Q

theorem opS_spec {op : Oper} {q : AV × Ups × Nat} (hr : opS P (evalA m f g) op.op h nx = some q) : OpSpec op m f g h nx q.1 (upsH h q.2.1) q.2.2 := by
  refine ⟨opS_mono hr, fun F hF B w0 ι w a Q next S hhi E hk => ?_⟩
  obtain ⟨ι', x, w', hrun, hle, hv, S', _⟩ := opS_sound (o := op) S E.cut (by rw [opS_cut]; exact hr) hhi
  refine ⟨fun f _ => hF.fn f, ?_⟩
  have hd : ∀ c, op.op ≠ .defer c := by
    intro c hc
    rw [hc] at hr; simp [opS] at hr
  rw [Oper.semAt_eq _ _ _ hd]
  rcases hrun with hrun | ⟨hrun, rfl⟩
  · rw [hrun]; exact hk ι' x w' hle hv S'
  · rw [hrun]; exact hk ι' _ w' hle hv S'

theorem calleeK_spec {op : Oper} {c : Call} {q : Operand} {args : List AV} {av : AV} {κ : KC} (hc : CFok cf) (hy : YFok yf) (ho : o ≠ .fail) (hop : op.op = .call c) (hq : c.callee = .value q) (ha : argsA (evalA m f g) c.args.toList = some args)
    (hav : evalA m f g q = some av) (hs : calleeK av cf yf args h nx κ = o) : ∃ v h' nx', κ v h' nx' = o ∧ OpSpec op m f g h nx v h' nx' := by
  have hd : ∀ c, op.op ≠ .defer c := by intro c' e; rw [hop] at e; cases e
  cases av with
  | fn gi first caps =>
    have hs' : appK args caps (fun l => appK first l (fun l => cf gi l h nx κ)) = o := hs
    rw [appK_eq, appK_eq] at hs'
    obtain ⟨v, h', nx', hk, ⟨fn, hf1, hf2, hf3⟩, hmono, hspec⟩ := hc gi _ h nx _ o ho hs'
    refine ⟨v, h', nx', hk, hmono, fun F hF B w0 ι w a Q next S hhi E hn => ⟨fun f _ => hF.fn f, ?_⟩⟩
    rw [Oper.semAt_eq _ _ _ hd]
    have hvq := E q (by rw [hop]; simp [Op.operands, Call.operands, hq]) _ hav
    have hargs := argsA_spec E.cut (ops := c.args.toList) (l := args) (by rw [argsA_cut (l := c.args.toList) (fun x hx => by rw [hop]; simp [Op.operands, Call.operands]; exact .inr (by simpa using hx))]; exact ha)
    generalize hx : a.eval q = x at hvq
    cases hvq with
    | fn _ hA hC =>
      rename_i A C
      have hvs : VRs ι (first ++ (args ++ caps)) ((A ++ c.args.map a.eval) ++ C).toList := by
        rw [Array.toList_append, Array.toList_append, List.append_assoc, Array.toList_map]
        exact hA.append (hargs.append hC)
      have hcall := hF.calls (hspec B w0 ι w _ S hhi hvs)
      have hrun : (execOp a.eval op).run P w = .ok (.enter gi ((A ++ c.args.map a.eval) ++ C)) w := by
        simp only [execOp, hop, resolve, hq, hx, Deferred.ofValue, Sem.run_bind, Sem.run_pure, Result.andThen_ok, invoke, callFunc, run_program, hf1, hf2, hf3, Bool.false_eq_true, if_false]
      rw [hrun, Oper.uponIn_enter]
      refine ⟨fun e => (by rw [hF.depth] at e; cases e), CallsIn.mono hcall ?_⟩
      rintro e w' ⟨x, ι', rfl, h1, h2, h3⟩
      exact hn ι' x w' h1 h2 h3
  | yld l =>
    have hs' : yf l args h nx κ = o := hs
    obtain ⟨v, h', nx', hk, hmono, hspec⟩ := hy l _ h nx _ o ho hs'
    refine ⟨v, h', nx', hk, hmono, fun F hF B w0 ι w a Q next S hhi E hn => ⟨fun f _ => hF.fn f, ?_⟩⟩
    rw [Oper.semAt_eq _ _ _ hd]
    have hvq := E q (by rw [hop]; simp [Op.operands, Call.operands, hq]) _ hav
    have hargs := argsA_spec E.cut (ops := c.args.toList) (l := args) (by rw [argsA_cut (l := c.args.toList) (fun x hx => by rw [hop]; simp [Op.operands, Call.operands]; exact .inr (by simpa using hx))]; exact ha)
    generalize hx : a.eval q = x at hvq
    cases hvq with
    | yld hp =>
      rename_i p
      obtain ⟨ff, tmps, x1, y1, w1, hrun1, hround⟩ := hspec B w0 ι w (c.args.map a.eval) _ S hhi (by rw [Array.toList_map]; exact hargs) hp
      have hrun : (execOp a.eval op).run P w = .ok (.round p.blk ff tmps x1 y1) w1 := by
        simp only [execOp, hop, resolve, hq, hx, Deferred.ofValue, Sem.run_bind, Sem.run_pure, Result.andThen_ok, invoke, Array.empty_append]
        exact hrun1
      rw [hrun, Oper.uponIn_round]
      refine ⟨fun e => (by rw [hF.depth] at e; cases e), RoundIn.mono (hF.round hround) ?_⟩
      rintro e w' ⟨x, ι', rfl, h1, h2, h3⟩
      exact hn ι' x w' h1 h2 h3
  | _ => exact absurd hs.symm ho

theorem step_spec {op : Oper} (hc : CFok cf) (hy : YFok yf) (ho : o ≠ .fail) (hs : stepT op.op cf yf m K d f g h nx = o) :
    ∃ v h' nx', K (putF d v m f g).1 (putF d v m f g).2 h' nx' = o ∧ OpSpec op m f g h nx v h' nx' := by
  rcases stepT_inv ho hs with ⟨q, h1, h2⟩ | ⟨c, q, args, a, h1, h2, h3, h4, h5⟩
  · exact ⟨_, _, _, h2, opS_spec h1⟩
  · obtain ⟨v, h', nx', hk, hsp⟩ := calleeK_spec hc hy ho h1 h2 h3 h4 h5
    exact ⟨v, h', nx', by rw [← hk, kcall, putK_eq], hsp⟩
end Go.Ev.F
