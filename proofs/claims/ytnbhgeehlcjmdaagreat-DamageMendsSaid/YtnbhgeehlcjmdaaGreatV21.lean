/- Proved here: operations by their kinds. -/
import Derived.Test.YtnbhgeehlcjmdaaGreatV20
namespace Go.Ev.F
open Go Go.Ev

/-- kinds 0 and 1: nothing is written -/
theorem kind01_same {P : Program} {ρ : Env} {op : Op} {h : HT} {nx : Nat} {r : AV × Ups × Nat} (hk : opKind P op ≤ 1) (hr : opS P ρ op h nx = some r) : r.2 = ([], nx) := by
  unfold opS at hr
  split at hr <;> (try (simp at hr; done)) <;> (try (simp [opKind] at hk; done)) <;>
    (first
      | unfold oMove at hr | unfold oPick oMove at hr | unfold oBuild at hr | unfold oLoad at hr
      | unfold oNil at hr | unfold oBin at hr | unfold oUn at hr | unfold oConv convA at hr | unfold oFunc at hr | unfold oSlice at hr
      | unfold oFieldAddr at hr | unfold oField at hr | unfold oIndexAddr at hr | unfold oIndex at hr | unfold oLookup at hr | unfold oExtract at hr
      | unfold oBuiltin bLen bCap bAppend appendA appendB bMin bMax bCopy bClear at hr) <;>
    (repeat' split at hr) <;> first
      | (simp at hr; done)
      | (simp at hr; subst hr; simp; done)
      | (exfalso; simp [opKind, *] at hk; done)
      | skip
/-- kind 0: whatever the heap -/
theorem kind0_free {P : Program} {ρ : Env} {op : Op} {h : HT} {nx : Nat} {r : AV × Ups × Nat} (hk : opKind P op = 0) (hr : opS P ρ op h nx = some r) (h' : HT) (nx' : Nat) : opS P ρ op h' nx' = some (r.1, [], nx') := by
  cases op <;> (try (simp [opS] at hr; done)) <;> (try (simp [opKind] at hk; done)) <;>
    simp only [opS, oMove, oPick, oBuild, oNil, oBin, oUn, oConv, convA, oFunc, oSlice, oFieldAddr, oField, oIndexAddr, oIndex, oExtract, oBuiltin, bLen, bCap, bAppend, appendA, appendB, bMin, bMax, bCopy, bClear] at hr ⊢ <;>
    (repeat' split at hr) <;> first
      | (simp at hr; done)
      | (exfalso; simp [opKind, *] at hk; done)
      | (simp at hr; subst hr; simp [*]; done)
      | skip
/-- kind 2: one new object, and where it lies -/
theorem kind2_shape {P : Program} {ρ : Env} {op : Op} {h : HT} {nx : Nat} {r : AV × Ups × Nat} (hk : opKind P op = 2) (hr : opS P ρ op h nx = some r) : ∃ v ob, r = (v, [(nx, some ob)], nx + 1) := by
  cases op <;> (try (simp [opS] at hr; done)) <;> (try (simp [opKind] at hk; done)) <;>
    simp only [opS, oAlloc, oBox, oBuildSlice, oMakeMap, oMakeSlice, oConv, convA, oBuiltin] at hr <;>
    (repeat' split at hr) <;> first
      | (simp at hr; done)
      | (exfalso; simp [opKind, *] at hk; done)
      | (simp at hr; subst hr; exact ⟨_, _, rfl⟩)
      | (exfalso; unfold opKind at hk; (repeat' split at hk) <;> simp_all; done)
      | skip
theorem kind2_law {ι : Mp} {ρ : Env} {a : Act} {o : Oper} {h : HT} {nx : Nat} {r : AV × Ups × Nat} (w : World) (hk : opKind P o.op = 2) (E : ER1 ι ρ a.eval) (hr : opS P ρ o.op h nx = some r) : AllocOK P a.eval o ι w r nx := by
  cases ho : o.op with
  | alloc t => rw [ho] at hr; exact al_alloc ho hr
  | box t x => rw [ho] at hr; exact al_box E ho hr
  | buildSlice t n ps => rw [ho] at hr; exact al_buildSlice E ho hr
  | makeMap t q => rw [ho] at hr; exact al_makeMap E ho hr
  | makeSlice t l c => rw [ho] at hr; exact al_makeSlice E ho hr
  | convert s t x => rw [ho] at hk; exfalso; simp only [opKind] at hk; split at hk <;> cases hk
  | call c => rw [ho] at hk; exfalso; simp only [opKind] at hk; split at hk <;> cases hk
  | _ => rw [ho] at hk; simp [opKind] at hk
end Go.Ev.F
