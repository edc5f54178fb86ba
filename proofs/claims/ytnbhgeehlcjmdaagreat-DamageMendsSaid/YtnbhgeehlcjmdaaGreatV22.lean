/- Proved here: the run of a region that draws its order, step by step. -/
import Derived.Test.YtnbhgeehlcjmdaaGreatV21
namespace Go.Ev.F
open Go Go.Ev
variable {d : Option Tmp} {m : Nat} {K : K4} {f g : Fr} {h : HT} {nx : Nat} {o : O} {cf yf : CF}

/-- is an operation carried out, by what is known of its guard? -/
def Wanted (ops : Array Oper) (op : Oper) (look : Nat → Option AV) : Prop :=
  op.guard = none ∨ ∃ j want d, op.guard = some (j, want) ∧ dstOf ops.toList j = some d ∧ look d = some (.bool want)
def Unwanted (ops : Array Oper) (op : Oper) (look : Nat → Option AV) : Prop :=
  ∃ j want, op.guard = some (j, want) ∧ (dstOf ops.toList j = none ∨ ∃ d v, dstOf ops.toList j = some d ∧ look d = some v ∧ v ≠ .bool want)
theorem guardT_inv {ops : Array Oper} {op : Oper} (ho : o ≠ .fail) (hs : guardT op.guard ops.toList op.op cf yf m K d f g h nx = o) :
    (Unwanted ops op (look m f g) ∧ putK d .dead m K f g h nx = o) ∨ (Wanted ops op (look m f g) ∧ stepT op.op cf yf m K d f g h nx = o) := by
  cases hg : op.guard with
  | none => rw [hg] at hs; exact .inr ⟨.inl hg, hs⟩
  | some q =>
    rw [hg] at hs
    have hs' : guarded ops.toList m f g (stepT op.op cf yf m K d f g h nx) (putK d .dead m K f g h nx) q = o := hs
    rcases guarded_inv ho hs' with ⟨h1, h2⟩ | ⟨d', v, h1, h2, ⟨h3, h4⟩ | ⟨h3, h4⟩⟩
    · exact .inl ⟨⟨q.1, q.2, hg, .inl h2⟩, h1⟩
    · subst h4; exact .inr ⟨.inr ⟨q.1, q.2, d', hg, h1, h2⟩, h3⟩
    · exact .inl ⟨⟨q.1, q.2, hg, .inr ⟨d', v, h1, h2, h4⟩⟩, h3⟩
theorem Wanted.now {ι : Mp} {ops : Array Oper} {op : Oper} {lk : Nat → Option AV} {tmps : Array Value} (hw : Wanted ops op lk) (hG : GR ι ops op lk tmps) : Region.wanted op (yielded ops tmps) = true := by
  rcases hw with hg | ⟨j, want, d, hg, hd, hl⟩
  · simp [Region.wanted, hg]
  · obtain ⟨x, hx, hv⟩ := hG j want hg d hd _ hl
    cases hv
    simp only [Region.wanted, hg, yielded]
    rw [← dstOf_eq, hd]
    simp [hx]
theorem Unwanted.now {ι : Mp} {ops : Array Oper} {op : Oper} {lk : Nat → Option AV} {tmps : Array Value} (hw : Unwanted ops op lk) (hG : GR ι ops op lk tmps) : Region.wanted op (yielded ops tmps) = false := by
  obtain ⟨j, want, hg, hc⟩ := hw
  simp only [Region.wanted, hg]
  rw [beq_eq_false_iff_ne]
  unfold yielded
  rw [← dstOf_eq]
  rcases hc with hd | ⟨d, v, hd, hl, hne⟩
  · rw [hd]; simp
  · obtain ⟨x, hx, hv⟩ := hG j want hg d hd _ hl
    rw [hd]
    intro e
    simp only [Option.bind_some, hx] at e
    split at e
    · rename_i b hb
      simp at hb e
      subst hb; subst e
      exact hne (VR.notBool hv)
    · cases e

/-- a state of the run -/
structure St where
  f : Fr
  g : Fr
  h : HT
  n : Nat
abbrev St.look (m : Nat) (s : St) : Nat → Option AV := F.look m s.f s.g
/-- one step of it -/
structure StepI (ops : Array Oper) (m : Nat) (op : Oper) (b : St) (v : AV) (b' : St) : Prop where
  f : b'.f = (putF op.dst v m b.f b.g).1
  g : b'.g = (putF op.dst v m b.f b.g).2
  mono : b.n ≤ b'.n
  how : (Unwanted ops op (b.look m) ∧ v = .dead ∧ b'.h = b.h ∧ b'.n = b.n) ∨
    (Wanted ops op (b.look m) ∧ OpSpec op m b.f b.g b.h b.n v b'.h b'.n ∧ (opKind P op.op = 3 ∨ ∃ q, opS P (evalA m b.f b.g) op.op b.h b.n = some q ∧ v = q.1 ∧ b'.h = upsH b.h q.2.1 ∧ b'.n = q.2.2))
theorem stepI_of {ops : Array Oper} {op : Oper} (hc : CFok cf) (hy : YFok yf) (ho : o ≠ .fail) (hs : guardT op.guard ops.toList op.op cf yf m K op.dst f g h nx = o) :
    ∃ v b', StepI ops m op ⟨f, g, h, nx⟩ v b' ∧ K b'.f b'.g b'.h b'.n = o := by
  rcases guardT_inv ho hs with ⟨h1, h2⟩ | ⟨h1, h2⟩
  · rw [putK_eq] at h2
    exact ⟨.dead, ⟨_, _, h, nx⟩, ⟨rfl, rfl, Nat.le_refl _, .inl ⟨h1, rfl, rfl, rfl⟩⟩, h2⟩
  · rcases stepT_inv ho h2 with ⟨q, h3, h4⟩ | ⟨c, q, args, a, h3, h4, h5, h6, h7⟩
    · exact ⟨q.1, ⟨_, _, _, _⟩, ⟨rfl, rfl, opS_mono h3, .inr ⟨h1, opS_spec h3, .inr ⟨q, h3, rfl, rfl, rfl⟩⟩⟩, h4⟩
    · obtain ⟨v, h', nx', hk, hsp⟩ := calleeK_spec hc hy ho h3 h4 h5 h6 h7
      refine ⟨v, ⟨_, _, h', nx'⟩, ⟨rfl, rfl, hsp.1, .inr ⟨h1, hsp, .inl ?_⟩⟩, by rw [← hk, kcall, putK_eq]⟩
      rw [h3]; simp only [opKind, h4]

theorem againK_inv {ops : List Oper} {re : List Pt} (ho : o ≠ .fail) (hs : againK ops m re K f g h nx = o) : (∀ p ∈ re, again P ops (evalA m f g) h p.o = true) ∧ K f g h nx = o := by
  have h1 := iteK_inv hs
  cases hb : (re.all fun p => again P ops (evalA m f g) h p.o) with
  | false => rw [hb] at h1; exact absurd h1.symm ho
  | true => rw [hb] at h1; exact ⟨fun p hp => List.all_eq_true.1 hb p hp, h1⟩
/-- the whole run -/
theorem stepsK_trace {ops : Array Oper} (hc : CFok cf) (hy : YFok yf) (ho : o ≠ .fail) : ∀ (l : List Stp) (b : St), stepsK ops.toList cf yf m O.nrm l b.f b.g b.h b.n = o →
    ∃ (st : Nat → St) (val : Nat → AV), st 0 = b ∧ o = .nrm (st l.length).f (st l.length).g (st l.length).h (st l.length).n ∧
      ∀ k s, l[k]? = some s → StepI ops m s.pt.o (st k) (val k) (st (k + 1)) ∧ ∀ p ∈ s.re, again P ops.toList (evalA m (st (k + 1)).f (st (k + 1)).g) (st (k + 1)).h p.o = true
  | [], b, hs => ⟨fun _ => b, fun _ => .dead, rfl, hs.symm, fun k s hk => by simp at hk⟩
  | s :: l, b, hs => by
    have hs' : guardT s.pt.o.guard ops.toList s.pt.o.op cf yf m (List.rec (motive := fun _ => K4) (stepsK ops.toList cf yf m O.nrm l) (fun p r _ => againK ops.toList m (p :: r) (stepsK ops.toList cf yf m O.nrm l)) s.re) s.pt.o.dst b.f b.g b.h b.n = o := hs
    obtain ⟨v, b', h1, h2⟩ := stepI_of (ops := ops) (op := s.pt.o) hc hy ho hs'
    have h3 : (∀ p ∈ s.re, again P ops.toList (evalA m b'.f b'.g) b'.h p.o = true) ∧ stepsK ops.toList cf yf m O.nrm l b'.f b'.g b'.h b'.n = o := by
      cases hre : s.re with
      | nil => rw [hre] at h2; exact ⟨by simp, h2⟩
      | cons p r => rw [hre] at h2; exact againK_inv ho h2
    obtain ⟨st, val, e0, eN, hst⟩ := stepsK_trace hc hy ho l b' h3.2
    refine ⟨fun k => match k with | 0 => b | k + 1 => st k, fun k => match k with | 0 => v | k + 1 => val k, rfl, by simpa using eN, fun k t hk => ?_⟩
    cases k with
    | zero =>
      simp at hk; subst hk
      simp only [e0]
      exact ⟨h1, h3.1⟩
    | succ k => exact hst k t (by simpa using hk)
end Go.Ev.F
