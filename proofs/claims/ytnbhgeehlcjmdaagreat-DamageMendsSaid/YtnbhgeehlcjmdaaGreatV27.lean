/- Proved here: a region that draws its order keeps its invariant, operation by operation. -/
import Derived.Test.YtnbhgeehlcjmdaaGreatV26
namespace Go.Ev.F
open Go Go.Ev
variable {ops : Array Oper} {l : List Stp} {m : Nat} {st : Nat → St} {val : Nat → AV}

theorem kind01_free {P : Program} {ρ : Env} {op : Op} {h : HT} {nx : Nat} {r : AV × Ups × Nat} (hk : opKind P op ≤ 1) (hr : opS P ρ op h nx = some r) (nx' : Nat) : opS P ρ op h nx' = some (r.1, [], nx') := by
  cases op <;> (try (simp [opS] at hr; done)) <;> (try (simp [opKind] at hk; done)) <;>
    simp only [opS, oMove, oPick, oBuild, oLoad, oNil, oBin, oUn, oConv, convA, oFunc, oSlice, oFieldAddr, oField, oIndexAddr, oIndex, oLookup, oExtract, oBuiltin, bLen, bCap, bAppend, appendA, appendB, bMin, bMax, bCopy, bClear] at hr ⊢ <;>
    (repeat' split at hr) <;> first
      | (simp at hr; done)
      | (exfalso; simp [opKind, *] at hk; done)
      | (simp at hr; subst hr; simp [*]; done)
      | skip
theorem kind01_quiet {P : Program} {op : Op} (hk : opKind P op ≤ 1) : Quiet P op := by
  rintro s d x e rfl hd
  simp [opKind, hd] at hk
/-- an operation of kinds 0 and 1, anywhere: the world is what it was -/
theorem quiet_spec {op : Oper} {f g : Fr} {h : HT} {n : Nat} {v : AV} {F : Fence} {w0 w : World} {ι : Mp} {Bh : Nat → Prop} {a : Act} {next : Act → World → Prop} {Q : Exit → Act → World → Prop} {R : Nat → Obj → Prop}
    (hF : Open F) (hk : opKind P op.op ≤ 1) (hr : opS P (evalA m f g) op.op h n = some (v, [], n)) (S : SimR Bh w0 ι R w) (hd : Dom h n) (hh : ∀ b o p, hget h b = some o → ι b = some p → R b o)
    (E : ERop ι op.op (evalA m f g) a.eval) (hn : ∀ x, VR ι v x → next (a.put op.dst x) w) : op.wpIn F 0 P a w next Q := by
  have S1 : Sim ⟨Bh, n⟩ w0 ι h n w := (S.sub hh).toSim hd (fun b h1 h2 => absurd h1 (by omega))
  obtain ⟨ι', x, w', hrun, _, hv, _, hsame⟩ := opS_sound (o := op) S1 E.cut (by rw [opS_cut]; exact hr) (Nat.le_refl _)
  obtain ⟨rfl, rfl⟩ := hsame (kind01_quiet hk) rfl
  refine ⟨fun f _ => hF.fn f, ?_⟩
  have hdf : ∀ c, op.op ≠ .defer c := by
    intro c hc
    rw [hc] at hr; simp [opS] at hr
  rw [Oper.semAt_eq _ _ _ hdf]
  rcases hrun with hrun | ⟨hrun, rfl⟩
  · rw [hrun]; exact hn x hv
  · rw [hrun]; exact hn _ hv
/-- a new object, anywhere -/
theorem alloc_spec {op : Oper} {f g : Fr} {h : HT} {n : Nat} {r : AV × Ups × Nat} {F : Fence} {w0 w : World} {ι : Mp} {Bh : Nat → Prop} {a : Act} {next : Act → World → Prop} {Q : Exit → Act → World → Prop} {R R' : Nat → Obj → Prop}
    (hF : Open F) (hk : opKind P op.op = 2) (hr : opS P (evalA m f g) op.op h n = some r) (S : SimR Bh w0 ι R w) (hid : ι n = none)
    (E : ERop ι op.op (evalA m f g) a.eval) (hR : ∀ ob, r.2.1 = [(n, some ob)] → (∀ b o, R' b o → R b o ∨ (b = n ∧ o = ob)) ∧ (∀ o, R' n o → o = ob))
    (hn : ∀ p x w', VR (ι.put n p) r.1 x → SimR Bh w0 (ι.put n p) R' w' → next (a.put op.dst x) w') : op.wpIn F 0 P a w next Q := by
  obtain ⟨x, y, w', base, size, ob, h0, h1, h2, h3, h4, h5, h6, h7⟩ := kind2_law (o := op) w hk E.cut (by rw [opS_cut]; exact hr)
  have hRR := hR ob (by rw [h0])
  refine ⟨fun f _ => hF.fn f, ?_⟩
  have hdf : ∀ c, op.op ≠ .defer c := by
    intro c hc
    rw [hc] at hr; simp [opS] at hr
  rw [Oper.semAt_eq _ _ _ hdf, h1]
  exact hn _ x w' (h7 _ (Mp.put_same ..)) (S.new hid h2 h3 h4 h5 h6 hRR.1 hRR.2)

/-- what is so when the operations of L were done, s being the place behind the last heavy one of them -/
structure Inv (ops : Array Oper) (l : List Stp) (m : Nat) (st : Nat → St) (val : Nat → AV) (Bh : Nat → Prop) (w0 : World) (ι0 : Mp) (N : Nat) (D : List Deferred) (L : Array Bool) (s : Nat) (ι : Mp) (a : Act) (w : World) : Prop where
  lsize : L.size = ops.size
  closed : Closed l L
  sle : s ≤ l.length
  heavyIn : ∀ (k : Nat) (t : Stp), l[k]? = some t → t.pt.kd = 3 → (InL L t.pt.ix ↔ k < s)
  last : s = 0 ∨ ∃ k t, s = k + 1 ∧ l[k]? = some t ∧ t.pt.kd = 3
  dom : Dom (st s).h (st s).n
  sim : SimR Bh w0 ι (fun b o => hget (st s).h b = some o ∨ ∃ k t, s ≤ k ∧ l[k]? = some t ∧ InL L t.pt.ix ∧ Al l st k b o) w
  free : ∀ (k : Nat) (t : Stp), l[k]? = some t → ¬ InL L t.pt.ix → ∀ b, (st k).n ≤ b → b < (st (k + 1)).n → ι b = none
  le : ι0.le ι
  tail : ∀ b, (st l.length).n ≤ b → ι b = ι0 b
  done : ∀ (k : Nat) (t : Stp) (d : Tmp), l[k]? = some t → InL L t.pt.ix → t.pt.o.dst = some d → ∃ x, a.tmps[d]? = some x ∧ VR ι (val k) x
  rest : ∀ (d : Tmp) (v : AV), (∀ (k : Nat) (t : Stp), l[k]? = some t → InL L t.pt.ix → t.pt.o.dst ≠ some d) → (st 0).look m d = some v → ∃ x, a.tmps[d]? = some x ∧ VR ι v x
  tsize : a.tmps.size = N
  defs : a.defers = D

variable {Bh : Nat → Prop} {w0 w : World} {ι0 ι : Mp} {N : Nat} {D : List Deferred} {L : Array Bool} {s : Nat} {a : Act}

theorem inL_set {L : Array Bool} {i j : Nat} (hi : i < L.size) : InL (L.setIfInBounds i true) j ↔ InL L j ∨ j = i := by
  unfold InL
  rw [Array.getElem?_setIfInBounds]
  by_cases e : i = j
  · subst e; simp [hi]
  · rw [if_neg e]
    constructor
    · exact .inl
    · rintro (h | h)
      · exact h
      · exact absurd h.symm e
/-- the names that a step reads -/
theorem Inv.name (pl : Plan ops l) (rn : Run ops l m st val) (I : Inv ops l m st val Bh w0 ι0 N D L s ι a w) {k : Nat} {t : Stp} (hk : l[k]? = some t) (hn : ¬ InL L t.pt.ix) (hc : ∀ x, t.pt.cl.testBit x = true → InL L x)
    {d : Tmp} {v : AV} (hr : readsN ops.toList t.pt d = true) (hv : (st k).look m d = some v) : ∃ x, a.tmps[d]? = some x ∧ VR ι v x := by
  have hkl := lt_of_at hk
  by_cases hw : ∃ (j : Nat) (q : Stp), l[j]? = some q ∧ q.pt.o.dst = some d ∧ j ≠ k
  · obtain ⟨j, q, hj, hd, hjk⟩ := hw
    rcases (pl.names k j t q d hk hj (fun e => hjk e.symm) hd).2 hr with h1 | h1
    · obtain ⟨j', t', h2, h3, h4⟩ := pl.ord k t hk _ h1
      have := pl.ix_inj h3 hj h4
      subst this
      rw [rn.lookW pl hj hd k h2 (by omega)] at hv
      cases hv
      exact I.done j' q d hj (hc _ h1) hd
    · obtain ⟨j', t', h2, h3, h4⟩ := pl.ord j q hj _ h1
      have := pl.ix_inj h3 hk h4
      subst this
      have huniq : ∀ (i : Nat) (u : Stp), l[i]? = some u → u.pt.o.dst = some d → i = j := fun i u hi hu => by
        rcases Nat.decEq i j with e | e
        · exact absurd hu (pl.names i j u q d hi hj e hd).1
        · exact e
      rw [rn.lookN j' (by omega) (fun i u hi hu hd' => by have := huniq i u hu hd'; omega)] at hv
      refine I.rest d v (fun i u hi hu hd' => ?_) hv
      have := huniq i u hi hd'
      subst this
      rw [hj] at hi; cases hi
      exact hn (I.closed i q hj hu _ h1)
  · have hno : ∀ (i : Nat) (u : Stp), l[i]? = some u → u.pt.o.dst = some d → i = k := fun i u hi hu => by
      rcases Nat.decEq i k with e | e
      · exact absurd ⟨i, u, hi, hu, e⟩ hw
      · exact e
    rw [rn.lookN k (by omega) (fun i u hi hu hd' => by have := hno i u hu hd'; omega)] at hv
    refine I.rest d v (fun i u hi hu hd' => ?_) hv
    have := hno i u hi hd'
    subst this
    rw [hk] at hi; cases hi
    exact hn hu
theorem readsN_op {p : Pt} {d : Tmp} (h : Operand.tmp d ∈ p.o.op.operands) : readsN ops.toList p d = true := by
  unfold readsN
  rw [Bool.or_eq_true]
  left
  rw [List.contains_iff_mem]
  unfold tmpsOf
  rw [List.mem_filterMap]
  exact ⟨.tmp d, by simpa using h, rfl⟩
theorem readsN_guard {p : Pt} {j : Nat} {want : Bool} {d : Tmp} (hg : p.o.guard = some (j, want)) (hd : dstOf ops.toList j = some d) : readsN ops.toList p d = true := by
  unfold readsN
  rw [Bool.or_eq_true]
  right
  unfold dstOf at hd
  rw [hg]
  simp only
  cases hq : ops.toList[j]? with
  | none => rw [hq] at hd; cases hd
  | some q =>
    rw [hq] at hd
    simp only at hd
    simp [hd]
theorem Inv.operands (pl : Plan ops l) (rn : Run ops l m st val) (I : Inv ops l m st val Bh w0 ι0 N D L s ι a w) {k : Nat} {t : Stp} (hk : l[k]? = some t) (hn : ¬ InL L t.pt.ix) (hc : ∀ x, t.pt.cl.testBit x = true → InL L x) :
    ERop ι t.pt.o.op (evalA m (st k).f (st k).g) a.eval := by
  intro x hx v hv
  cases x with
  | tmp d =>
    obtain ⟨x, h1, h2⟩ := I.name pl rn hk hn hc (readsN_op hx) (d := d) hv
    simp only [Act.eval, Array.getD_eq_getD_getElem?, h1, Option.getD_some]; exact h2
  | const c => exact VR.ofValue hv
  | global g => simp [evalA] at hv
  | func fi =>
    simp [evalA] at hv; subst hv
    exact .fn fi (A := #[]) (C := #[]) .nil .nil
theorem Inv.guard (pl : Plan ops l) (rn : Run ops l m st val) (I : Inv ops l m st val Bh w0 ι0 N D L s ι a w) {k : Nat} {t : Stp} (hk : l[k]? = some t) (hn : ¬ InL L t.pt.ix) (hc : ∀ x, t.pt.cl.testBit x = true → InL L x) :
    GR ι ops t.pt.o ((st k).look m) a.tmps := fun _ _ hg _ hd _ hv => I.name pl rn hk hn hc (readsN_guard hg hd) hv

/-- no heavy one between -/
theorem Inv.quietBetween (pl : Plan ops l) (I : Inv ops l m st val Bh w0 ι0 N D L s ι a w) {k : Nat} {t : Stp} (hk : l[k]? = some t) (hc : ∀ x, t.pt.cl.testBit x = true → InL L x) (h13 : t.pt.kd = 1 ∨ t.pt.kd = 3) :
    ∀ (j : Nat) (q : Stp), s ≤ j → j < k → l[j]? = some q → q.pt.kd ≠ 3 := by
  intro j q hsj hjk hj h3
  have hrel := pl.pair j k q t hjk hj hk
  have hin : InL L q.pt.ix := by
    simp only [relS, Bool.and_eq_true] at hrel
    have h2 := hrel.2
    rcases h13 with h | h
    · simp only [h, h3] at h2
      simp at h2
      exact hc _ h2
    · simp only [h, h3] at h2
      simp at h2
      exact hc _ h2
  have := (I.heavyIn j q hj h3).1 hin
  omega
/-- allocations ahead of a heavy one are done before it -/
theorem alloc_before (pl : Plan ops l) {j k : Nat} {q t : Stp} (hj : l[j]? = some q) (hk : l[k]? = some t) (hjk : j < k) (hq : q.pt.kd = 2) (ht : t.pt.kd = 3) : t.pt.cl.testBit q.pt.ix = true := by
  have hrel := pl.pair j k q t hjk hj hk
  simp only [relS, Bool.and_eq_true] at hrel
  have h2 := hrel.2
  simp only [ht, hq] at h2
  simpa using h2

/-- one more is done -/
theorem Inv.next (pl : Plan ops l) (I : Inv ops l m st val Bh w0 ι0 N D L s ι a w) {k : Nat} {t : Stp} (hk : l[k]? = some t) (hc : ∀ x, t.pt.cl.testBit x = true → InL L x)
    (hfit : opsFit N ops.toList = true) {ι' : Mp} {s' : Nat} {x : Value} {w' : World}
    (hs' : (t.pt.kd ≠ 3 ∧ s' = s) ∨ (t.pt.kd = 3 ∧ s' = k + 1 ∧ s ≤ k ∧ ∀ (j : Nat) (q : Stp), s ≤ j → j < k → l[j]? = some q → q.pt.kd ≠ 3))
    (hdom : Dom (st s').h (st s').n)
    (hsim : SimR Bh w0 ι' (fun b o => hget (st s').h b = some o ∨ ∃ j q, s' ≤ j ∧ l[j]? = some q ∧ InL (L.setIfInBounds t.pt.ix true) q.pt.ix ∧ Al l st j b o) w')
    (hle : ι.le ι') (htail : ∀ b, (st l.length).n ≤ b → ι' b = ι b)
    (hfree : ∀ (j : Nat) (q : Stp), l[j]? = some q → ¬ InL L q.pt.ix → j ≠ k → ∀ b, (st j).n ≤ b → b < (st (j + 1)).n → ι' b = none)
    (hv : VR ι' (val k) x) : Inv ops l m st val Bh w0 ι0 N D (L.setIfInBounds t.pt.ix true) s' ι' (a.put t.pt.o.dst x) w' := by
  obtain ⟨hop, _, _, _⟩ := pl.at' k t hk
  have hlt : t.pt.ix < L.size := by rw [I.lsize]; exact (Array.getElem?_eq_some_iff.1 hop).1
  have hin : ∀ j, InL (L.setIfInBounds t.pt.ix true) j ↔ InL L j ∨ j = t.pt.ix := fun j => inL_set hlt
  have hdst : ∀ d, t.pt.o.dst = some d → d < a.tmps.size := by
    intro d hd
    rw [I.tsize]
    have hmem : t.pt.o ∈ ops.toList := by
      rw [Array.mem_toList_iff]
      exact Array.mem_of_getElem? hop
    have := List.all_eq_true.1 hfit _ hmem
    rw [hd] at this
    simpa using this
  have hother : ∀ (d : Tmp) (y : Value), t.pt.o.dst ≠ some d → a.tmps[d]? = some y → (a.put t.pt.o.dst x).tmps[d]? = some y := by
    intro d y hd hy
    cases hq : t.pt.o.dst with
    | none => exact hy
    | some e =>
      simp only [Act.put]
      rw [Array.getElem?_setIfInBounds, if_neg (fun e' => hd (by rw [hq, e']))]
      exact hy
  refine ⟨by simp [I.lsize], ?_, ?_, ?_, ?_, hdom, hsim, ?_, I.le.trans hle, fun b hb => (htail b hb).trans (I.tail b hb), ?_, ?_, (put_size _ _ _).trans I.tsize, (put_defers _ _ _).trans I.defs⟩
  · intro j q hj hq i hi
    rw [hin] at hq ⊢
    rcases hq with hq | hq
    · exact .inl (I.closed j q hj hq i hi)
    · have := pl.ix_inj hj hk hq
      subst this
      rw [hk] at hj; cases hj
      exact .inl (hc i hi)
  · rcases hs' with ⟨_, rfl⟩ | ⟨_, rfl, _, _⟩
    · exact I.sle
    · have := lt_of_at hk; omega
  · intro j q hj hq
    rw [hin]
    rcases hs' with ⟨h3, rfl⟩ | ⟨h3, rfl, hsk, hbet⟩
    · rw [← I.heavyIn j q hj hq]
      constructor
      · rintro (h | h)
        · exact h
        · have := pl.ix_inj hj hk h
          subst this
          rw [hk] at hj; cases hj
          exact absurd hq h3
      · exact .inl
    · rw [I.heavyIn j q hj hq]
      constructor
      · rintro (h | h)
        · omega
        · have := pl.ix_inj hj hk h
          omega
      · intro h
        by_cases e : j = k
        · subst e; rw [hk] at hj; cases hj; exact .inr rfl
        · left
          rcases Nat.lt_or_ge j s with h' | h'
          · exact h'
          · exact absurd hq (hbet j q h' (by omega) hj)
  · rcases hs' with ⟨_, rfl⟩ | ⟨h3, rfl, _, _⟩
    · exact I.last
    · exact .inr ⟨k, t, rfl, hk, h3⟩
  · intro j q hj hq b h1 h2
    rw [hin, not_or] at hq
    exact hfree j q hj hq.1 (fun e => hq.2 (by subst e; rw [hk] at hj; cases hj; rfl)) b h1 h2
  · intro j q d hj hq hd
    rw [hin] at hq
    by_cases e : j = k
    · subst e
      rw [hk] at hj; cases hj
      refine ⟨x, ?_, hv⟩
      rw [hd]
      simp [Act.put, hdst d hd]
    · have hq' : InL L q.pt.ix := by
        rcases hq with h | h
        · exact h
        · exact absurd (pl.ix_inj hj hk h) e
      obtain ⟨y, h1, h2⟩ := I.done j q d hj hq' hd
      exact ⟨y, hother d y (pl.names k j t q d hk hj (fun e' => e e'.symm) hd).1 h1, h2.mono hle⟩
  · intro d v hno hl
    obtain ⟨y, h1, h2⟩ := I.rest d v (fun j q hj hq => hno j q hj ((hin _).2 (.inl hq))) hl
    exact ⟨y, hother d y (hno k t hk ((hin _).2 (.inr rfl))) h1, h2.mono hle⟩
end Go.Ev.F
