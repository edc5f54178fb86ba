/- Proved here: what the reckoner says of an operation is what the model does: the plain operations. -/
import Derived.Test.YtnbhgeehlcjmdaaGreatV5
namespace Go.Ev
open Go
variable {P : Program} {w w0 : World} {ι : Mp} {B : Bd} {h : HT} {nx : Nat} {ρ : Env} {ρc : Operand → Value} {o : Oper} {r : AV × Ups × Nat}

/-- operands -/
def ER1 (ι : Mp) (ρ : Env) (ρc : Operand → Value) : Prop := ∀ x v, ρ x = some v → VR ι v (ρc x)
/-- an operation that is no conversion to a slice -/
def Quiet (P : Program) (op : Op) : Prop := ∀ s d x e, op = .convert s d x → P.underlying d ≠ some (.slice e)
/-- the operation, as it is told, is what the model does -/
abbrev OpOK (P : Program) (ρc : Operand → Value) (o : Oper) (B : Bd) (w0 : World) (ι : Mp) (h : HT) (w : World) (r : AV × Ups × Nat) : Prop :=
  r.2.2 ≤ B.hi → ∃ ι' x w', ((execOp ρc o).run P w = .ok (.value x) w' ∨ ((execOp ρc o).run P w = .ok .skip w' ∧ x = undef)) ∧ Mp.up r.2.2 ι ι' ∧ VR ι' r.1 x ∧ Sim B w0 ι' (upsH h r.2.1) r.2.2 w' ∧ (Quiet P o.op → r.2.1 = [] → ι' = ι ∧ w' = w)

theorem OpOK.same (S : Sim B w0 ι h nx w) {v : AV} {x : Value} (hv : VR ι v x) (hr : (execOp ρc o).run P w = .ok (.value x) w) : OpOK P ρc o B w0 ι h w (v, [], nx) :=
  fun _ => ⟨ι, x, w, .inl hr, Mp.up.refl _ _, hv, S, fun _ _ => ⟨rfl, rfl⟩⟩

/-- a new object: whatever its number -/
def AllocOK (P : Program) (ρc : Operand → Value) (o : Oper) (ι : Mp) (w : World) (r : AV × Ups × Nat) (nx : Nat) : Prop :=
  ∃ x y w' base size ob, r.2 = ([(nx, some ob)], nx + 1) ∧ (execOp ρc o).run P w = .ok (.value x) w' ∧ w'.heap = w.heap.push y ∧ w'.os = w.os ∧ w'.tape = w.tape ∧ w'.output = w.output ∧
    ObjR ι ⟨w.heap.size, base, size⟩ (some y) ob ∧ ∀ ι' : Mp, ι' nx = some ⟨w.heap.size, base, size⟩ → VR ι' r.1 x
theorem AllocOK.op (S : Sim B w0 ι h nx w) (ha : AllocOK P ρc o ι w r nx) : OpOK P ρc o B w0 ι h w r := by
  intro hh
  obtain ⟨x, y, w', base, size, ob, h0, h1, h2, h3, h4, h5, h6, h7⟩ := ha
  obtain ⟨v, u⟩ := r
  simp only at h0 hh h7 ⊢
  subst h0
  have hle : ι.le (ι.put nx ⟨w.heap.size, base, size⟩) := Mp.put_le (S.fresh nx (Nat.le_refl _) hh)
  exact ⟨_, x, w', .inl h1, Mp.up.put (S.fresh nx (Nat.le_refl _) hh) (Nat.lt_succ_self _), h7 _ (Mp.put_same ..), S.new hh (by rw [h2]; simp) (fun k hk => by rw [h2]; simp [Array.getElem?_push]; omega) (by rw [h2]; simpa using h6.mono hle) h3 h4 h5, fun _ e => by simp at e⟩
theorem ObjR.row {c : Array Value} {e : TypeId} {vs : List AV} {k : Nat} (hv : VRs ι vs c.toList) : ObjR ι ⟨k, 0, c.size⟩ (some (.cells c e (0, 0))) (.cells vs) := by
  have hl := hv.length
  refine ⟨c, e, (0, 0), rfl, rfl, by simp at hl ⊢; omega, .inl rfl, fun i v hi => ?_⟩
  obtain ⟨x, hx, hr⟩ := hv.get hi
  exact ⟨x, by simpa using hx, hr⟩

theorem ok_move (S : Sim B w0 ι h nx w) (E : ER1 ι ρ ρc) {x : Operand} (ho : o.op = .move x ∨ o.op = .assign x) (hr : oMove ρ x nx = some r) : OpOK P ρc o B w0 ι h w r := by
  unfold oMove at hr
  split at hr
  · rename_i v hv
    simp at hr; subst hr
    refine OpOK.same S (E x v hv) ?_
    rcases ho with ho | ho <;> simp [execOp, ho]
  · simp at hr

theorem ok_pick (S : Sim B w0 ι h nx w) (E : ER1 ι ρ ρc) {c a b : Operand} (ho : o.op = .pick c a b) (hr : oPick ρ c a b nx = some r) : OpOK P ρc o B w0 ι h w r := by
  unfold oPick at hr
  split at hr
  · rename_i hc
    have hv := E c _ hc
    generalize hx : ρc c = x at hv
    cases hv
    unfold oMove at hr
    split at hr
    · rename_i v hv
      simp at hr; subst hr
      refine OpOK.same S (E a v hv) ?_
      simp [execOp, ho, hx, asBool]
    · simp at hr
  · rename_i hc
    have hv := E c _ hc
    generalize hx : ρc c = x at hv
    cases hv
    unfold oMove at hr
    split at hr
    · rename_i v hv
      simp at hr; subst hr
      refine OpOK.same S (E b v hv) ?_
      simp [execOp, ho, hx, asBool]
    · simp at hr
  · simp at hr

theorem al_alloc {t : TypeId} (ho : o.op = .alloc t) (hr : oAlloc P t nx = some r) : AllocOK P ρc o ι w r nx := by
  unfold oAlloc at hr
  split at hr
  · rename_i z hz
    simp at hr; subst hr
    obtain ⟨v, hv, hz'⟩ := run_zero' (P := P) hz
    exact ⟨_, _, { w with heap := w.heap.push (.cells v.cells t (0, 0)) }, _, _, _, rfl, by simp only [execOp, ho, Instr.alloc, Sem.run_bind, hv, Result.andThen_ok, newVar, newRow, run_newObj, Sem.run_pure], rfl, rfl, rfl, rfl, .row (hz' ι).cells, fun ι' hp => .ptr 0 hp⟩
  · simp at hr

theorem al_box (E : ER1 ι ρ ρc) {t : TypeId} {x : Operand} (ho : o.op = .box t x) (hr : oBox ρ x nx = some r) : AllocOK P ρc o ι w r nx := by
  unfold oBox at hr
  split at hr
  · rename_i v hv
    simp at hr; subst hr
    exact ⟨_, _, { w with heap := w.heap.push (.cells (ρc x).cells t (0, 0)) }, _, _, _, rfl, by simp only [execOp, ho, Instr.box, Sem.run_bind, Result.andThen_ok, newVar, newRow, run_newObj, Sem.run_pure], rfl, rfl, rfl, rfl, .row (E x v hv).cells, fun ι' hp => .ptr 0 hp⟩
  · simp at hr

theorem ok_load (S : Sim B w0 ι h nx w) (E : ER1 ι ρ ρc) {t : TypeId} {a : Operand} (ho : o.op = .load t a) (hr : oLoad P ρ t a h nx = some r) : OpOK P ρc o B w0 ι h w r := by
  unfold oLoad at hr
  split at hr
  · rename_i b off hv
    split at hr
    · rename_i v hl
      simp at hr; subst hr
      have hv := E a _ hv
      generalize hx : ρc a = x at hv
      cases hv with
      | ptr off hp =>
        unfold loadA at hl
        split at hl
        · rename_i cs hcs
          obtain ⟨q, hq, hob⟩ := S.objs1 (cellsOf_spec hcs) hp
          rw [hp] at hq; cases hq
          obtain ⟨y, hy, hvy⟩ := run_loadVar' (P := P) hob hl
          refine OpOK.same S hvy ?_
          simp only [execOp, ho, hx, Instr.loadAt, Instr.sureAddr, Sem.run_bind, Sem.run_pure, Result.andThen_ok, hy]
        · simp at hl
    · simp at hr
  · simp at hr

theorem ok_store (S : Sim B w0 ι h nx w) (E : ER1 ι ρ ρc) {t : TypeId} {a x : Operand} (ho : o.op = .store t a x) (hr : oStore P ρ t a x h nx = some r) : OpOK P ρc o B w0 ι h w r := by
  unfold oStore at hr
  split at hr
  · rename_i b off v ha hx
    split at hr
    · rename_i u hs
      simp at hr; subst hr
      have hva := E a _ ha
      have hvx := E x _ hx
      generalize hxa : ρc a = xa at hva
      cases hva with
      | ptr off hp =>
        unfold storeA at hs
        split at hs
        · rename_i cs n hcs hn
          split at hs
          · rename_i hlen
            split at hs
            · rename_i l hl
              simp at hs; subst hs
              obtain ⟨w', hw', S'⟩ := S.write (P := P) (cellsOf_spec hcs) hp hvx.cells hl
              intro _
              refine ⟨ι, undef, w', .inr ⟨?_, rfl⟩, Mp.up.refl _ _, .dead, S', fun _ e => by simp at e⟩
              have hsz : (ρc x).cells.size = n := by have := hvx.cells.length; simp at this; omega
              simp only [execOp, ho, hxa, Instr.storeAt, Instr.sureAddr, storeVar, Sem.run_bind, Sem.run_pure, Result.andThen_ok, run_sizeOf' hn, hsz, ne_eq, not_true_eq_false, if_false, hw']
            · simp at hs
          · simp at hs
        · simp at hs
    · simp at hr
  · simp at hr

theorem ok_nil (S : Sim B w0 ι h nx w) (E : ER1 ι ρ ρc) {x : Operand} (ho : o.op = .nilCheck x) (hr : oNil ρ x nx = some r) : OpOK P ρc o B w0 ι h w r := by
  unfold oNil at hr
  split at hr <;> first
    | (simp at hr; done)
    | (rename_i hv
       simp at hr; subst hr
       have hv := E x _ hv
       generalize hx : ρc x = y at hv
       have hv' := hv
       cases hv
       refine OpOK.same S hv' ?_
       simp [execOp, ho, hx])

theorem ok_fieldAddr (S : Sim B w0 ι h nx w) (E : ER1 ι ρ ρc) {s : TypeId} {x : Operand} {i : Nat} (ho : o.op = .fieldAddr s x i) (hr : oFieldAddr P ρ s x i nx = some r) : OpOK P ρc o B w0 ι h w r := by
  unfold oFieldAddr at hr
  split at hr
  · rename_i b off fo hv hf
    simp at hr; subst hr
    have hv := E x _ hv
    generalize hx : ρc x = y at hv
    cases hv with
    | ptr off hp =>
      unfold fieldOff at hf
      split at hf
      · rename_i fields hd
        split at hf
        · rename_i f hfi
          split at hf
          · simp at hf
          · rename_i n hne hn
            simp at hf; subst hf
            refine OpOK.same S (.ptr (off + f.offset) hp) ?_
            have hn0 : n ≠ 0 := fun e => hne e
            have hfi' : fields[i]? = some f := by simpa using hfi
            simp only [execOp, ho, hx, Instr.fieldAt, Sem.run_bind, run_underlying' hd, Result.andThen_ok, hfi', Instr.sureAddr, Sem.run_pure, fieldPlace, run_sizeOf' hn, hn0, if_false, addr_add, Nat.add_assoc]
          · simp at hf
        · simp at hf
      · simp at hf
  · simp at hr

theorem ok_field (S : Sim B w0 ι h nx w) (E : ER1 ι ρ ρc) {t : TypeId} {x : Operand} {i : Nat} (ho : o.op = .field t x i) (hr : oField P ρ t x i nx = some r) : OpOK P ρc o B w0 ι h w r := by
  unfold oField at hr
  split at hr
  · rename_i cs fields hv hd
    split at hr
    · rename_i f hfi
      split at hr
      · rename_i v hpart
        simp at hr; subst hr
        have hv := E x _ hv
        generalize hx : ρc x = y at hv
        cases hv with
        | agg hcs =>
          obtain ⟨z, hz, hvz⟩ := run_part' (P := P) (w := w) hcs hpart
          refine OpOK.same S hvz ?_
          have hfi' : fields[i]? = some f := by simpa using hfi
          simp only [execOp, ho, hx, Instr.field, Sem.run_bind, run_underlying' hd, Result.andThen_ok, hfi', asAgg, Sem.run_pure, hz]
      · simp at hr
    · simp at hr
  · simp at hr

theorem natOf_spec {v : AV} {n : Nat} (hv : natOf v = some n) : ∃ k, v = .int k n := by
  unfold natOf at hv
  split at hv
  · simp at hv; subst hv; exact ⟨_, rfl⟩
  · simp at hv
theorem VR.nat {v : AV} {n : Nat} {x : Value} (hv : VR ι v x) (hn : natOf v = some n) : ∃ k, x = .int k (n : Int) := by
  obtain ⟨k, rfl⟩ := natOf_spec hn
  cases hv; exact ⟨k, rfl⟩

theorem ok_indexAddr (S : Sim B w0 ι h nx w) (E : ER1 ι ρ ρc) {t : TypeId} {x ix : Operand} (ho : o.op = .indexAddr t x ix) (hr : oIndexAddr P ρ t x ix nx = some r) : OpOK P ρc o B w0 ι h w r := by
  unfold oIndexAddr at hr
  split at hr
  · rename_i xv iv hvx hvi
    have hvx := E x _ hvx
    have hvi := E ix _ hvi
    split at hr
    · rename_i i n b off len cp q hi he _
      split at hr
      · rename_i hlt
        simp at hr; subst hr
        obtain ⟨k, hki⟩ := hvi.nat hi
        unfold elemInfo at he
        split at he
        · rename_i e hd
          split at he
          · rename_i n' hn
            simp at he; subst he
            generalize hx : ρc x = y at hvx
            have hcase : ∃ p o' c, ι b = some p ∧ y = .slice (some ⟨p.blk, o', none⟩) len c ∧ o' = p.base + off := by
              cases hvx with
              | slc _ _ _ hp => exact ⟨_, _, _, hp, rfl, rfl⟩
              | slo _ _ _ k o' c hp h1 h2 h3 h4 h5 => exact ⟨_, _, _, hp, rfl, h3 (by omega)⟩
            obtain ⟨p, o', c, hp, rfl, rfl⟩ := hcase
            refine OpOK.same S (.ptr (off + i * n') hp) ?_
            have h1 : (0 : Int) ≤ (i : Int) ∧ (i : Int) < (len : Int) := by omega
            simp only [execOp, ho, hx, hki, Instr.indexAt, asIntOf, Sem.run_bind, run_underlying' hd, Result.andThen_ok, Sem.run_pure, Sem.run_ite, h1, and_self, if_true, run_sizeOf' hn, addr_add, Int.toNat_natCast, Nat.add_assoc]
          · simp at he
        · split at he <;> simp at he
        · simp at he
      · simp at hr
    · rename_i i len n b off hi he _
      split at hr
      · rename_i hlt
        simp at hr; subst hr
        obtain ⟨k, hki⟩ := hvi.nat hi
        unfold elemInfo at he
        split at he
        · split at he <;> simp at he
        · rename_i len' e hd
          split at he
          · rename_i n' hn
            simp at he; obtain ⟨rfl, rfl⟩ := he
            generalize hx : ρc x = y at hvx
            cases hvx with
            | ptr off hp =>
              refine OpOK.same S (.ptr (off + i * n') hp) ?_
              have h1 : (0 : Int) ≤ (i : Int) ∧ (i : Int) < (len' : Int) := by omega
              simp only [execOp, ho, hx, hki, Instr.indexAt, Instr.sureAddr, asIntOf, Sem.run_bind, run_underlying' hd, Result.andThen_ok, Sem.run_pure, Sem.run_ite, h1, and_self, if_true, run_sizeOf' hn, addr_add, Int.toNat_natCast, Nat.add_assoc]
          · simp at he
        · simp at he
      · simp at hr
    · simp at hr
  · simp at hr

theorem ok_extract (S : Sim B w0 ι h nx w) (E : ER1 ι ρ ρc) {t : Operand} {i : Nat} (ho : o.op = .extract t i) (hr : oExtract ρ t i nx = some r) : OpOK P ρc o B w0 ι h w r := by
  unfold oExtract at hr
  split at hr
  · rename_i l hv
    split at hr
    · rename_i v hi
      simp at hr; subst hr
      have hv := E t _ hv
      generalize hx : ρc t = y at hv
      cases hv with
      | tup hl =>
        obtain ⟨z, hz, hvz⟩ := hl.get hi
        refine OpOK.same S hvz ?_
        rename_i c
        have hz' : c[i]? = some z := by simpa using hz
        simp [execOp, ho, hx, Instr.extract, hz']
    · simp at hr
  · simp at hr

theorem argsA_spec {ops : List Operand} {l : List AV} (E : ER1 ι ρ ρc) (hl : argsA ρ ops = some l) : VRs ι l (ops.map ρc) := by
  induction ops generalizing l with
  | nil => simp [argsA] at hl; subst hl; exact .nil
  | cons x r ih =>
    simp only [argsA] at hl
    split at hl
    · rename_i v hv
      split at hl
      · rename_i m hm
        simp at hl; subst hl
        exact .cons (E x v hv) (ih hm)
      · simp at hl
    · simp at hl

theorem ok_func (S : Sim B w0 ι h nx w) (E : ER1 ι ρ ρc) {fn : Fn} {first caps : Array Operand} (ho : o.op = .makeFunc fn first caps) (hr : oFunc ρ fn first caps nx = some r) : OpOK P ρc o B w0 ι h w r := by
  unfold oFunc at hr
  split at hr
  · rename_i g a b ha hb
    simp at hr; subst hr
    refine OpOK.same S (.fn g (A := first.map ρc) (C := caps.map ρc) (by simpa using argsA_spec E ha) (by simpa using argsA_spec E hb)) ?_
    simp [execOp, ho, Instr.makeFunc]
  · simp at hr
end Go.Ev
