/- Proved here: what the reckoner says of an operation that calls no function is what the model does. -/
import Derived.Test.YtnbhgeehlcjmdaaGreatV14
namespace Go.Ev
open Go
variable {P : Program} {w w0 : World} {ι : Mp} {B : Bd} {h : HT} {nx : Nat} {ρ : Env} {ρc : Operand → Value} {o : Oper} {r : AV × Ups × Nat}

theorem ok_builtin (S : Sim B w0 ι h nx w) (E : ER1 ι ρ ρc) {c : Call} {b : Builtin} (ho : o.op = .call c) (hc : c.callee = .builtin b) (hr : oBuiltin P ρ b c.args c.argTypes h nx = some r) : OpOK P ρc o B w0 ι h w r := by
  unfold oBuiltin at hr
  split at hr
  · rename_i l hl
    have hvs : VRs ι l (c.args.map ρc).toList := by rw [Array.toList_map]; exact argsA_spec E hl
    intro hh
    have fin : BiOK P b c.argTypes o.type (c.args.map fun | .const _ => true | _ => false) (c.args.map ρc) B w0 ι h w r → ∃ ι' x w', ((execOp ρc o).run P w = .ok (.value x) w' ∨ ((execOp ρc o).run P w = .ok .skip w' ∧ x = undef)) ∧ Mp.up r.2.2 ι ι' ∧ VR ι' r.1 x ∧ Sim B w0 ι' (upsH h r.2.1) r.2.2 w' ∧ (Quiet P o.op → r.2.1 = [] → ι' = ι ∧ w' = w) := by
      intro hbi
      obtain ⟨ι', x, w', h1, h2, h3, h4, h5⟩ := hbi hh
      refine ⟨ι', x, w', .inl ?_, h2, h3, h4, fun _ => h5⟩
      simp only [execOp, ho, resolve, hc, Sem.run_bind, Sem.run_pure, Result.andThen_ok, invoke]
      exact h1
    split at hr
    · exact fin (ok_len S hvs hr)
    · exact fin (ok_cap S hvs hr)
    · exact fin (ok_append S hvs hr)
    · exact fin (ok_min S hvs hr)
    · exact fin (ok_max S hvs hr)
    · exact fin (ok_copy S hvs hr)
    · exact fin (ok_clear S hvs hr)
    · simp at hr
  · simp at hr

/-- every operation that calls no function -/
theorem opS_sound (S : Sim B w0 ι h nx w) (E : ER1 ι ρ ρc) (hr : opS P ρ o.op h nx = some r) : OpOK P ρc o B w0 ι h w r := by
  unfold opS at hr
  split at hr
  · rename_i ho; exact ok_move S E (.inl ho) hr
  · rename_i ho; exact ok_move S E (.inr ho) hr
  · rename_i ho; exact ok_pick S E ho hr
  · rename_i ho; exact (al_alloc ho hr).op S
  · rename_i ho; exact (al_box E ho hr).op S
  · rename_i ho; exact ok_build S E ho hr
  · rename_i ho; exact (al_buildSlice E ho hr).op S
  · rename_i ho; exact ok_load S E ho hr
  · rename_i ho; exact ok_store S E ho hr
  · rename_i ho; exact ok_nil S E ho hr
  · rename_i ho; exact ok_bin S E ho hr
  · rename_i ho; exact ok_un S E ho hr
  · rename_i ho; exact ok_conv S E ho hr
  · rename_i ho; exact ok_func S E ho hr
  · rename_i ho; exact (al_makeMap E ho hr).op S
  · rename_i ho; exact (al_makeSlice E ho hr).op S
  · rename_i ho; exact ok_slice S E ho hr
  · rename_i ho; exact ok_fieldAddr S E ho hr
  · rename_i ho; exact ok_field S E ho hr
  · rename_i ho; exact ok_indexAddr S E ho hr
  · rename_i ho; exact ok_index S E ho hr
  · rename_i ho; exact ok_lookup S E ho hr
  · rename_i ho; exact ok_update S E (.inl ho) hr
  · rename_i ho; exact ok_update S E (.inr ho) hr
  · rename_i ho; exact ok_entry S E ho hr
  · rename_i ho; exact ok_stamp S E ho hr
  · rename_i ho; exact ok_extract S E ho hr
  · rename_i c ho
    split at hr
    · rename_i b hc; exact ok_builtin S E ho hc hr
    · simp at hr
  · simp at hr
end Go.Ev
