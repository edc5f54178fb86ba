/- Proved here: what the plan of a region that draws its order is known to be. -/
import Derived.Test.YtnbhgeehlcjmdaaGreatV22
namespace Go.Ev.F
open Go Go.Ev

theorem ptsOf_mem {P : Program} : ∀ (ops : List Oper) (cl : List Nat) (i : Nat) (p : Pt), p ∈ ptsOf P i ops cl → i ≤ p.ix ∧ ops[p.ix - i]? = some p.o ∧ cl[p.ix - i]? = some p.cl ∧ p.kd = opKind P p.o.op
  | [], _, i, p, h => by simp [ptsOf] at h
  | _ :: _, [], i, p, h => by simp [ptsOf] at h
  | o :: r, c :: cs, i, p, h => by
    simp only [ptsOf, List.mem_cons] at h
    rcases h with rfl | h
    · simp
    · obtain ⟨h1, h2, h3, h4⟩ := ptsOf_mem r cs (i + 1) p h
      have e : p.ix - i = (p.ix - (i + 1)) + 1 := by omega
      rw [e]
      exact ⟨by omega, by simpa using h2, by simpa using h3, h4⟩
theorem early_mem {need : Nat} : ∀ {l : List Pt} {dn : Nat} {p : Pt}, p ∈ early need l dn → p ∈ l
  | [], _, p, h => by simp [early] at h
  | q :: l, dn, p, h => by
    simp only [early] at h
    split at h
    · rcases List.mem_cons.1 h with rfl | h
      · simp
      · exact List.mem_cons_of_mem _ (early_mem h)
    · exact List.mem_cons_of_mem _ (early_mem h)
theorem stages_mem {all : List Pt} : ∀ {ks rd : List Pt} {dn : Nat} {last : Option Nat} {l : List Stp}, stages all ks rd dn last = some l → (∀ p ∈ ks, p ∈ all) → (∀ p ∈ rd, p ∈ all) →
    ∀ s ∈ l, s.pt ∈ all ∧ ∀ q ∈ s.re, q ∈ all
  | [], rd, dn, last, l, h, _, _, s, hs => by
    simp only [stages] at h
    split at h
    · simp at h; subst h
      obtain ⟨p, hp, rfl⟩ := List.mem_map.1 hs
      exact ⟨early_mem hp, by simp⟩
    · simp at h
  | k :: ks, rd, dn, last, l, h, hk, hr, s, hs => by
    have hex : ∃ r, stages all ks (rd ++ (early k.cl all dn).filter fun p => p.kd == 1) (bitsOf (early k.cl all dn) dn ||| (1 <<< k.ix)) (some k.ix) = some r ∧
        l = (early k.cl all dn).map (fun p => (⟨p, []⟩ : Stp)) ++ (⟨k, (rd ++ (early k.cl all dn).filter fun p => p.kd == 1).filter fun p => !k.cl.testBit p.ix⟩ : Stp) :: r := by
      simp only [stages] at h
      cases last <;> simp only at h <;> (split at h) <;> (try (simp at h; done)) <;> (split at h) <;> (try (simp at h; done))
      all_goals
        rename_i r hst
        exact ⟨r, hst, (Option.some.inj h).symm⟩
    obtain ⟨r, hst, rfl⟩ := hex
    have hr' : ∀ p ∈ rd ++ (early k.cl all dn).filter (fun p => p.kd == 1), p ∈ all := fun p hp => by
      rcases List.mem_append.1 hp with hp | hp
      · exact hr p hp
      · exact early_mem (List.mem_filter.1 hp).1
    rcases List.mem_append.1 hs with hs | hs
    · obtain ⟨p, hp, rfl⟩ := List.mem_map.1 hs
      exact ⟨early_mem hp, by simp⟩
    · rcases List.mem_cons.1 hs with rfl | hs
      · exact ⟨hk k (by simp), fun q hq => hr' q (List.mem_filter.1 hq).1⟩
      · exact stages_mem hst (fun p hp => hk p (by simp [hp])) hr' s hs
theorem pairB_spec : ∀ {l : List Stp}, pairB l = true → ∀ (j k : Nat) (s q : Stp), j < k → l[j]? = some s → l[k]? = some q → relS s q = true
  | [], _, j, k, s, q, _, hj, _ => by simp at hj
  | t :: l, h, j, k, s, q, hjk, hj, hk => by
    simp only [pairB, Bool.and_eq_true, List.all_eq_true] at h
    cases k with
    | zero => omega
    | succ k =>
      cases j with
      | zero =>
        simp at hj hk; subst hj
        exact h.1 q (List.mem_of_getElem? hk)
      | succ j => exact pairB_spec h.2 j k s q (by omega) (by simpa using hj) (by simpa using hk)
theorem subB_spec {a b i : Nat} (h : subB a b = true) (hi : a.testBit i = true) : b.testBit i = true := by
  have e : a &&& b = a := by simpa [subB] using h
  have := congrArg (fun x => x.testBit i) e
  simp only [Nat.testBit_and, hi, Bool.true_and] at this
  exact this
theorem ordB_spec : ∀ {l : List Stp} {dn : Nat}, ordB l dn = true → ∀ (k : Nat) (s : Stp), l[k]? = some s → ∀ i, s.pt.cl.testBit i = true → dn.testBit i = true ∨ ∃ j t, j < k ∧ l[j]? = some t ∧ t.pt.ix = i
  | [], _, _, k, s, hk, _, _ => by simp at hk
  | t :: l, dn, h, k, s, hk, i, hi => by
    simp only [ordB, Bool.and_eq_true] at h
    cases k with
    | zero =>
      simp at hk; subst hk
      exact .inl (subB_spec h.1 hi)
    | succ k =>
      rcases ordB_spec h.2 k s (by simpa using hk) i hi with h1 | ⟨j, u, h1, h2, h3⟩
      · rw [Nat.testBit_or, Bool.or_eq_true] at h1
        rcases h1 with h1 | h1
        · exact .inl h1
        · right
          refine ⟨0, t, by omega, by simp, ?_⟩
          rw [Nat.one_shiftLeft, Nat.testBit_two_pow] at h1
          simpa using h1
      · exact .inr ⟨j + 1, u, by omega, by simpa using h2, h3⟩
theorem edgeFold (acc : List Nat) : ∀ (l : List Edge) (s x : Nat), (l.foldl (fun s e => if Region.binds .any e then s ||| (1 <<< e.on) ||| acc.getD e.on 0 else s) s).testBit x = true ↔
    s.testBit x = true ∨ ∃ e ∈ l, Region.binds .any e = true ∧ (x = e.on ∨ (acc.getD e.on 0).testBit x = true)
  | [], s, x => by simp
  | e :: l, s, x => by
    simp only [List.foldl_cons]
    rw [edgeFold acc l]
    by_cases hb : Region.binds .any e = true
    · simp only [hb, if_true, Nat.testBit_or, Bool.or_eq_true, Nat.one_shiftLeft, Nat.testBit_two_pow, decide_eq_true_eq, List.mem_cons]
      constructor
      · rintro (((h | h) | h) | ⟨e', h1, h2⟩)
        · exact .inl h
        · exact .inr ⟨e, .inl rfl, hb, .inl h.symm⟩
        · exact .inr ⟨e, .inl rfl, hb, .inr h⟩
        · exact .inr ⟨e', .inr h1, h2⟩
      · rintro (h | ⟨e', rfl | h1, h2, h3⟩)
        · exact .inl (.inl (.inl h))
        · rcases h3 with h3 | h3
          · exact .inl (.inl (.inr h3.symm))
          · exact .inl (.inr h3)
        · exact .inr ⟨e', h1, h2, h3⟩
    · simp only [hb, Bool.false_eq_true, if_false, List.mem_cons]
      constructor
      · rintro (h | ⟨e', h1, h2⟩)
        · exact .inl h
        · exact .inr ⟨e', .inr h1, h2⟩
      · rintro (h | ⟨e', rfl | h1, h2, h3⟩)
        · exact .inl h
        · exact absurd h2 hb
        · exact .inr ⟨e', h1, h2, h3⟩
theorem edgeBits_spec (acc : List Nat) (o : Oper) (x : Nat) : (edgeBits acc o).testBit x = true ↔ ∃ e ∈ o.after.toList, Region.binds .any e = true ∧ (x = e.on ∨ (acc.getD e.on 0).testBit x = true) := by
  unfold edgeBits
  rw [edgeFold]
  simp
theorem cloL_spec : ∀ (l : List Oper) (acc : List Nat), ∃ r, cloL acc l = acc ++ r ∧ r.length = l.length ∧ ∀ i o, l[i]? = some o → (cloL acc l)[acc.length + i]? = some (edgeBits ((cloL acc l).take (acc.length + i)) o)
  | [], acc => ⟨[], by simp [cloL], rfl, fun i o h => by simp at h⟩
  | o :: l, acc => by
    obtain ⟨r, h1, h2, h3⟩ := cloL_spec l (acc ++ [edgeBits acc o])
    refine ⟨edgeBits acc o :: r, by simp only [cloL]; rw [h1]; simp, by simp [h2], fun i o' hi => ?_⟩
    simp only [cloL]
    cases i with
    | zero =>
      simp at hi; subst hi
      rw [h1]
      simp
    | succ i =>
      have := h3 i o' (by simpa using hi)
      simp only [List.length_append, List.length_cons, List.length_nil] at this
      have e : acc.length + (i + 1) = acc.length + (0 + 1) + i := by omega
      rw [e]; exact this
/-- a plan, as it is used -/
structure Plan (ops : Array Oper) (l : List Stp) : Prop where
  at' : ∀ (k : Nat) (s : Stp), l[k]? = some s → ops[s.pt.ix]? = some s.pt.o ∧ (cloL [] ops.toList)[s.pt.ix]? = some s.pt.cl ∧ s.pt.kd = opKind P s.pt.o.op ∧ ∀ p ∈ s.re, ops[p.ix]? = some p.o
  cover : ∀ i, i < ops.size → ∃ (k : Nat) (s : Stp), l[k]? = some s ∧ s.pt.ix = i
  pair : ∀ (j k : Nat) (s q : Stp), j < k → l[j]? = some s → l[k]? = some q → relS s q = true
  ord : ∀ (k : Nat) (s : Stp), l[k]? = some s → ∀ i, s.pt.cl.testBit i = true → ∃ (j : Nat) (t : Stp), j < k ∧ l[j]? = some t ∧ t.pt.ix = i
  names : ∀ (j k : Nat) (s q : Stp) (d : Tmp), l[j]? = some s → l[k]? = some q → j ≠ k → q.pt.o.dst = some d → s.pt.o.dst ≠ some d ∧ (readsN ops.toList s.pt d = true → s.pt.cl.testBit q.pt.ix = true ∨ q.pt.cl.testBit s.pt.ix = true)
  reads : ∀ (j k : Nat) (s q : Stp) (d : Tmp), l[j]? = some s → l[k]? = some q → s.pt.kd = 1 → q.pt.o.dst = some d → readsN ops.toList s.pt d = true → s.pt.cl.testBit q.pt.ix = true
theorem planOf_spec {ops : Array Oper} {l : List Stp} (h : planOf P ops.toList = some l) : Plan ops l := by
  unfold planOf at h
  simp only at h
  split at h
  · rename_i hn
    simp only [Bool.and_eq_true] at hn
    split at h
    · rename_i l' hst
      split at h
      · rename_i hc
        simp at h; subst h
        simp only [Bool.and_eq_true] at hc
        obtain ⟨⟨ho, hp⟩, hcov⟩ := hc
        have hmem := stages_mem hst (fun p hp => (List.mem_filter.1 hp).1) (fun p hp => by simp at hp)
        have hin : ∀ (k : Nat) (s : Stp), l'[k]? = some s → s.pt ∈ ptsOf P 0 ops.toList (cloL [] ops.toList) := fun k s hk => (hmem s (List.mem_of_getElem? hk)).1
        have hpt : ∀ p ∈ ptsOf P 0 ops.toList (cloL [] ops.toList), ops[p.ix]? = some p.o ∧ (cloL [] ops.toList)[p.ix]? = some p.cl ∧ p.kd = opKind P p.o.op := fun p hp => by
          obtain ⟨_, h2, h3, h4⟩ := ptsOf_mem _ _ _ p hp
          exact ⟨by simpa using h2, by simpa using h3, h4⟩
        refine ⟨fun k s hk => ?_, fun i hi => ?_, pairB_spec hp, fun k s hk i hi => ?_, fun j k s q d hj hk hjk hd => ?_, fun j k s q d hj hk hs hd hr => ?_⟩
        · have hm := hmem s (List.mem_of_getElem? hk)
          obtain ⟨h1, h2, h3⟩ := hpt _ hm.1
          exact ⟨h1, h2, h3, fun p hp => (hpt p (hm.2 p hp)).1⟩
        · unfold coverB at hcov
          rw [List.all_eq_true] at hcov
          have := hcov i (by simpa using hi)
          rw [List.any_eq_true] at this
          obtain ⟨s, hs, he⟩ := this
          obtain ⟨k, hk⟩ := List.getElem?_of_mem hs
          exact ⟨k, s, hk, by simpa using he⟩
        · rcases ordB_spec ho k s hk i hi with h1 | h1
          · simp at h1
          · exact h1
        · have hne : s.pt.ix ≠ q.pt.ix := by
            rcases Nat.lt_or_gt_of_ne hjk with hlt | hlt
            · have := pairB_spec hp j k s q hlt hj hk
              simp only [relS, Bool.and_eq_true, bne_iff_ne] at this
              exact this.1
            · have := pairB_spec hp k j q s hlt hk hj
              simp only [relS, Bool.and_eq_true, bne_iff_ne] at this
              exact fun e => this.1 e.symm
          have h1 := hn.1
          unfold namesOK at h1
          rw [List.all_eq_true] at h1
          have h2 := h1 _ (hin j s hj)
          rw [List.all_eq_true] at h2
          have h3 := h2 _ (hin k q hk)
          rw [hd] at h3
          simp only [Bool.or_eq_true, beq_iff_eq, Bool.and_eq_true, bne_iff_ne, Bool.not_eq_true'] at h3
          rcases h3 with h3 | ⟨h3, h4⟩
          · exact absurd h3 hne
          · refine ⟨h3, fun hr => ?_⟩
            rcases h4 with (h4 | h4) | h4
            · unfold readsN at hr
              rw [h4] at hr; cases hr
            · exact .inl h4
            · exact .inr h4
        · have h1 := hn.2
          unfold readsB at h1
          rw [List.all_eq_true] at h1
          have h2 := h1 _ (hin j s hj)
          simp only [hs, Bool.or_eq_true, List.all_eq_true] at h2
          rcases h2 with h2 | h2
          · exact absurd h2 (by decide)
          · have h3 := h2 _ (hin k q hk)
            rw [hd] at h3
            simp only [hr, Bool.not_true, Bool.false_or] at h3
            exact h3
      · simp at h
    · simp at h
  · simp at h
end Go.Ev.F
