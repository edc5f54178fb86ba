/- Proved here: a region that draws its order comes to what the plan's run comes to, whatever is drawn. -/
import Derived.Test.YtnbhgeehlcjmdaaGreatV27
namespace Go.Ev.F
open Go Go.Ev
variable {ops : Array Oper} {l : List Stp} {m : Nat} {st : Nat → St} {val : Nat → AV}
variable {Bh : Nat → Prop} {w0 w : World} {ι0 ι : Mp} {N : Nat} {D : List Deferred} {L : Array Bool} {s : Nat} {a : Act}

/-- the world beside what is done: seen with one more index in L -/
theorem Inv.simSame (pl : Plan ops l) (I : Inv ops l m st val Bh w0 ι0 N D L s ι a w) {k : Nat} {t : Stp} (hk : l[k]? = some t) (h2 : t.pt.kd ≠ 2 ∨ (st (k + 1)).n = (st k).n) :
    SimR Bh w0 ι (fun b o => hget (st s).h b = some o ∨ ∃ j q, s ≤ j ∧ l[j]? = some q ∧ InL (L.setIfInBounds t.pt.ix true) q.pt.ix ∧ Al l st j b o) w := by
  have hlt : t.pt.ix < L.size := by rw [I.lsize]; exact (Array.getElem?_eq_some_iff.1 (pl.at' k t hk).1).1
  refine I.sim.sub fun b o p hb _ => ?_
  rcases hb with hb | ⟨j, q, h1, h3, h4, h5⟩
  · exact .inl hb
  · right
    refine ⟨j, q, h1, h3, ?_, h5⟩
    rcases (inL_set hlt).1 h4 with h | h
    · exact h
    · have := pl.ix_inj h3 hk h
      subst this
      rw [h3] at hk; cases hk
      obtain ⟨q', e1, e2, e3, e4, _⟩ := h5
      rw [h3] at e1; cases e1
      rcases h2 with h2 | h2
      · exact absurd e2 h2
      · omega
/-- an operation that is ready, carried out -/
theorem Inv.step (pl : Plan ops l) (rn : Run ops l m st val) (I : Inv ops l m st val Bh w0 ι0 N D L s ι a w) (hfit : opsFit N ops.toList = true) {F : Fence} (hF : Open F) {Q : Exit → Act → World → Prop} {K : Act → World → Prop} {i : Nat}
    (hi : i ∈ Region.ready .any ops L) (hK : ∀ s' ι' a' w', Inv ops l m st val Bh w0 ι0 N D (L.setIfInBounds i true) s' ι' a' w' → K a' w') : wpOpIn F 0 P ops Q i K a w := by
  obtain ⟨o, ho, hlt, hn, _⟩ := mem_ready hi
  obtain ⟨k, t, hk, rfl⟩ := pl.cover i hlt
  obtain ⟨hop, _, hkd, hre⟩ := pl.at' k t hk
  rw [hop] at ho; cases ho
  have hc := ready_closed pl I.lsize I.closed hk hi
  have hkl := lt_of_at hk
  have hst := rn.step k t hk
  have hE := I.operands pl rn hk hn hc
  have hG := I.guard pl rn hk hn hc
  -- heavy: what is ahead of it
  have hbet := I.quietBetween pl hk hc
  have hsk : t.pt.kd = 3 ∨ t.pt.kd = 2 → s ≤ k := by
    intro h
    rcases Nat.lt_or_ge k s with h' | h'
    · exfalso
      rcases h with h | h
      · exact hn ((I.heavyIn k t hk h).2 h')
      · rcases I.last with e | ⟨j, q, e, hj, hq⟩
        · omega
        · have hjk : k < j := by
            rcases Nat.lt_or_ge k j with e' | e'
            · exact e'
            · have : k = j := by omega
              subst this
              rw [hk] at hj; cases hj
              omega
          have hb := alloc_before pl hk hj hjk h hq
          exact hn (I.closed j q hj ((I.heavyIn j q hj hq).2 (by omega)) _ hb)
    · exact h'
  have hfreeSame : ∀ (j : Nat) (q : Stp), l[j]? = some q → ¬ InL L q.pt.ix → j ≠ k → ∀ b, (st j).n ≤ b → b < (st (j + 1)).n → ι b = none := fun j q hj hq _ => I.free j q hj hq
  unfold wpOpIn
  simp only [hop]
  rcases hst.how with ⟨hun, hval, hh, hnn⟩ | ⟨hwa, hsp, hor⟩
  · -- not wanted
    rw [hun.now hG]
    simp only [Bool.false_eq_true, if_false]
    refine ⟨fun f _ => hF.fn f, ?_⟩
    have hv : VR ι (val k) undef := by rw [hval]; exact .dead
    by_cases h3 : t.pt.kd = 3
    · have hsk' := hsk (.inl h3)
      have hb := hbet (.inr h3)
      refine hK (k + 1) ι _ w (I.next pl hk hc hfit (.inr ⟨h3, rfl, hsk', hb⟩) ?_ ?_ (Mp.le.refl _) (fun _ _ => rfl) hfreeSame hv)
      · rw [hh, hnn]; exact rn.dom pl I.dom hsk' (by omega) hb
      · refine (I.simSame pl hk (.inl (by omega))).sub fun b o p hb' _ => ?_
        rcases hb' with hb' | ⟨j, q, h1, h2, h4, h5⟩
        · rw [hh] at hb'
          rcases rn.fwd pl k hsk' (by omega) hb b o hb' with h1 | ⟨j, h1, h2, h4⟩
          · exact .inl h1
          · right
            obtain ⟨q, e1, e2, e3⟩ := h4
            have hin : InL L q.pt.ix := hc _ (alloc_before pl e1 hk h2 e2 h3)
            have hlt' : t.pt.ix < L.size := by rw [I.lsize]; exact hlt
            exact ⟨j, q, h1, e1, (inL_set hlt').2 (.inl hin), q, e1, e2, e3⟩
        · exact .inr ⟨j, q, by omega, h2, h4, h5⟩
    · exact hK s ι _ w (I.next pl hk hc hfit (.inl ⟨h3, rfl⟩) I.dom (I.simSame pl hk (.inr hnn)) (Mp.le.refl _) (fun _ _ => rfl) hfreeSame hv)
  · -- carried out
    rw [hwa.now hG]
    simp only [if_true]
    by_cases h3 : t.pt.kd = 3
    · -- a heavy one
      have hsk' := hsk (.inl h3)
      have hb := hbet (.inr h3)
      have hfw : ∀ b o p, hget (st k).h b = some o → ι b = some p → hget (st s).h b = some o ∨ ∃ j q, s ≤ j ∧ l[j]? = some q ∧ InL L q.pt.ix ∧ Al l st j b o := fun b o p hb' _ => by
        rcases rn.fwd pl k hsk' (by omega) hb b o hb' with h1 | ⟨j, h1, h2, h4⟩
        · exact .inl h1
        · obtain ⟨q, e1, e2, e3⟩ := h4
          exact .inr ⟨j, q, h1, e1, hc _ (alloc_before pl e1 hk h2 e2 h3), q, e1, e2, e3⟩
      have hd := rn.dom pl I.dom hsk' (by omega) hb
      have S0 := (I.sim.sub hfw).toSim (hi := (st (k + 1)).n) hd (I.free k t hk hn)
      refine hsp.2 F hF _ w ι w a Q K (S0.rebase (hi := (st (k + 1)).n) (I.free k t hk hn)) (Nat.le_refl _) hE fun ι' x w' hup hv S' => ?_
      refine hK (k + 1) ι' _ w' (I.next pl hk hc hfit (.inr ⟨h3, rfl, hsk', hb⟩) S'.dom ?_ hup.1 (fun b hb' => hup.2 b (Nat.le_trans (rn.mono _ (k + 1) (by omega) (Nat.le_refl _)) hb')) ?_ hv)
      · refine SimR.frame (X := fun b o => ∃ j q, k + 1 ≤ j ∧ l[j]? = some q ∧ InL L q.pt.ix ∧ Al l st j b o) I.sim hup.1 ?_ ?_ hd hfw S' ?_
        · rintro b o ⟨j, q, h1, h2, h4, h5⟩
          refine ⟨.inr ⟨j, q, by omega, h2, h4, h5⟩, ?_⟩
          obtain ⟨_, _, _, e, _⟩ := h5
          rw [e]
          exact rn.mono j k (by omega) (Nat.le_of_lt (lt_of_at h2))
        · rintro b o ⟨j, q, h1, h2, h4, h5⟩
          obtain ⟨_, _, _, e, _⟩ := h5
          refine hup.2 b ?_
          rw [e]
          exact rn.mono j (k + 1) h1 (Nat.le_of_lt (lt_of_at h2))
        · rintro b o p (h1 | ⟨j, q, h1, h2, h4, h5⟩) _
          · exact .inl h1
          · right
            refine ⟨j, q, h1, h2, ?_, h5⟩
            have hlt' : t.pt.ix < L.size := by rw [I.lsize]; exact hlt
            rcases (inL_set hlt').1 h4 with h | h
            · exact h
            · have := pl.ix_inj h2 hk h
              omega
      · intro j q hj hq hjk b h1 h2
        rcases Nat.lt_or_ge j k with hlt' | hge
        · have hq1 : q.pt.kd ≤ 1 := by
            have := pl.kd_le hj
            rcases Nat.lt_or_ge q.pt.kd 2 with h | h
            · omega
            · exfalso
              rcases Nat.lt_or_ge q.pt.kd 3 with h' | h'
              · exact hq (hc _ (alloc_before pl hj hk hlt' (by omega) h3))
              · have hq3 : q.pt.kd = 3 := by omega
                rcases Nat.lt_or_ge j s with e | e
                · exact hq ((I.heavyIn j q hj hq3).2 e)
                · exact hb j q e hlt' hj hq3
          have := rn.flat pl hj hq1
          omega
        · rw [hup.2 b (Nat.le_trans (rn.mono j (k + 1) (by omega) (Nat.le_of_lt (lt_of_at hj))) h1)]
          exact I.free j q hj hq b h1 h2
    · have hq : ∃ q, opS P (evalA m (st k).f (st k).g) t.pt.o.op (st k).h (st k).n = some q ∧ val k = q.1 ∧ (st (k + 1)).h = upsH (st k).h q.2.1 ∧ (st (k + 1)).n = q.2.2 := by
        rcases hor with h | h
        · exact absurd (hkd.trans h) h3
        · exact h
      obtain ⟨r, hr, hvr, hhr, hnr⟩ := hq
      by_cases h2 : t.pt.kd = 2
      · -- a new object
        have hsk' := hsk (.inr h2)
        obtain ⟨v, ob, rfl⟩ := kind2_shape (hkd.symm.trans h2) hr
        simp only at hvr hhr hnr
        have hid : ι (st k).n = none := I.free k t hk hn _ (Nat.le_refl _) (by omega)
        have hlt' : t.pt.ix < L.size := by rw [I.lsize]; exact hlt
        have hnew : ∀ o, hget (st (k + 1)).h (st k).n = some o → o = ob := fun o ho => by
          rw [hhr] at ho
          rcases hget_hset (h := (st k).h) (k := (st k).n) (o := some ob) ho with ⟨_, e⟩ | ⟨e, _⟩
          · cases e; rfl
          · exact absurd rfl e
        refine alloc_spec hF (hkd.symm.trans h2) hr I.sim hid hE (R' := fun b o => hget (st s).h b = some o ∨ ∃ j q, s ≤ j ∧ l[j]? = some q ∧ InL (L.setIfInBounds t.pt.ix true) q.pt.ix ∧ Al l st j b o) ?_ ?_
        · intro ob' e
          simp at e; subst e
          refine ⟨?_, ?_⟩
          · rintro b o (h1 | ⟨j, q, h1, h4, h5, h6⟩)
            · exact .inl (.inl h1)
            · rcases (inL_set hlt').1 h5 with h | h
              · exact .inl (.inr ⟨j, q, h1, h4, h, h6⟩)
              · have := pl.ix_inj h4 hk h
                subst this
                obtain ⟨_, _, _, e, _, e3⟩ := h6
                exact .inr ⟨e, hnew o (e ▸ e3)⟩
          · rintro o (h1 | ⟨j, q, h1, h4, h5, h6⟩)
            · have h7 := I.dom _ _ h1
              have := rn.mono k s hsk' (by omega)
              omega
            · obtain ⟨_, _, _, e, e2, e3⟩ := h6
              have hjl := lt_of_at h4
              rcases Nat.lt_trichotomy j k with h | h | h
              · have := rn.mono k (j + 1) (by omega) (by omega)
                omega
              · subst h; exact hnew o e3
              · have := rn.mono j (k + 1) (by omega) (by omega)
                omega
        · intro p x w' hv S'
          refine hK s _ _ w' (I.next pl hk hc hfit (.inl ⟨h3, rfl⟩) I.dom S' (Mp.put_le hid) (fun b hb => ?_) ?_ (by rw [hvr]; exact hv))
          · unfold Mp.put
            rw [if_neg]
            have := rn.mono l.length (k + 1) (by omega) (Nat.le_refl _)
            omega
          · intro j q hj hq hjk b h1 h4
            unfold Mp.put
            have hjl := lt_of_at hj
            rw [if_neg]
            · exact I.free j q hj hq b h1 h4
            · rcases Nat.lt_or_ge j k with h | h
              · have := rn.mono k (j + 1) (by omega) (by omega)
                omega
              · have := rn.mono j (k + 1) (by omega) (by omega)
                omega
      · -- nothing is written
        have h01 : opKind P t.pt.o.op ≤ 1 := by
          have := pl.kd_le hk
          omega
        have e01 := kind01_same h01 hr
        obtain ⟨v, u⟩ := r
        simp only at e01 hvr
        subst e01
        have fin : ∀ x, VR ι (val k) x → K (a.put t.pt.o.dst x) w := fun x hv =>
          hK s ι _ w (I.next pl hk hc hfit (.inl ⟨h3, rfl⟩) I.dom (I.simSame pl hk (.inl h2)) (Mp.le.refl _) (fun _ _ => rfl) hfreeSame hv)
        by_cases h1 : t.pt.kd = 1
        · rcases Nat.lt_or_ge k s with hks | hks
          · -- looked at again
            rcases I.last with e | ⟨j, q, e, hj, hq⟩
            · omega
            · subst e
              have hjin : InL L q.pt.ix := (I.heavyIn j q hj hq).2 (by omega)
              have hjk : k < j := by
                rcases Nat.lt_or_ge k j with e' | e'
                · exact e'
                · have : k = j := by omega
                  subst this
                  rw [hk] at hj; cases hj
                  omega
              have hrel := pl.pair k j t q hjk hk hj
              simp only [relS, Bool.and_eq_true, hq, h1] at hrel
              have hrel2 := hrel.2
              simp at hrel2
              rcases hrel2 with hb | ⟨p, hp, hpx⟩
              · exact absurd (I.closed j q hj hjin _ hb) hn
              · have hag := rn.again j q hj p hp
                have hpo : p.o = t.pt.o := by
                  have := (pl.at' j q hj).2.2.2 p hp
                  rw [hpx, hop] at this
                  exact (Option.some.inj this).symm
                rw [hpo] at hag
                have hjl := lt_of_at hj
                -- the names that it reads were written before
                have hsame : ∀ d, readsN ops.toList t.pt d = true → (st (j + 1)).look m d = (st k).look m d := by
                  intro d hd
                  by_cases hw : ∃ (i : Nat) (u : Stp), l[i]? = some u ∧ u.pt.o.dst = some d
                  · obtain ⟨i, u, hi, hu⟩ := hw
                    obtain ⟨i', u', g1, g2, g3⟩ := pl.ord k t hk _ (pl.reads k i t u d hk hi h1 hu hd)
                    have := pl.ix_inj g2 hi g3
                    subst this
                    rw [rn.lookW pl hi hu k g1 (by omega), rn.lookW pl hi hu (j + 1) (by omega) (by omega)]
                  · rw [rn.lookN k (by omega) (fun i u _ hi hu => hw ⟨i, u, hi, hu⟩), rn.lookN (j + 1) (by omega) (fun i u _ hi hu => hw ⟨i, u, hi, hu⟩)]
                have hd : ∃ d, t.pt.o.dst = some d := by
                  cases hd : t.pt.o.dst with
                  | some d => exact ⟨d, rfl⟩
                  | none =>
                    exfalso
                    have : Go.Ev.F.again P ops.toList (evalA m (st (j + 1)).f (st (j + 1)).g) (st (j + 1)).h t.pt.o = true := hag
                    unfold Go.Ev.F.again at this
                    rcases hwa with hg | ⟨j', want, d', hg, hd', hl⟩
                    · rw [hg, hd] at this; simp at this
                    · have hl' := hl
                      rw [← hsame d' (readsN_guard hg hd')] at hl'
                      rw [hg, hd] at this
                      unfold dstOf at hd'
                      cases hqq : ops.toList[j']? with
                      | none => rw [hqq] at hd'; simp at hd'
                      | some qq =>
                        rw [hqq] at hd'
                        simp only at hd'
                        have hl2 : evalA m (st (j + 1)).f (st (j + 1)).g (.tmp d') = some (.bool want) := hl'
                        simp [hqq, hd', hl2] at this
                obtain ⟨d, hd⟩ := hd
                have hwa' : Wanted ops t.pt.o (fun x => evalA m (st (j + 1)).f (st (j + 1)).g (.tmp x)) := by
                  rcases hwa with hg | ⟨j', want, d', hg, hd', hl⟩
                  · exact .inl hg
                  · exact .inr ⟨j', want, d', hg, hd', (hsame d' (readsN_guard hg hd')).trans hl⟩
                obtain ⟨r', v', g1, g2, g3⟩ := again_spec hd hag hwa'
                have g2' : (st (j + 1)).look m d = some v' := g2
                rw [rn.lookW pl hk hd (j + 1) (by omega) (by omega)] at g2'
                have hrr := kind01_free h01 g1 (st (j + 1)).n
                rw [g3] at hrr
                have hE' : ERop ι t.pt.o.op (evalA m (st (j + 1)).f (st (j + 1)).g) a.eval := by
                  intro x hx u hu
                  cases x with
                  | tmp e =>
                    have he : evalA m (st (j + 1)).f (st (j + 1)).g (.tmp e) = evalA m (st k).f (st k).g (.tmp e) := hsame e (readsN_op hx)
                    rw [he] at hu
                    exact hE _ hx u hu
                  | const c => exact hE _ hx u hu
                  | global g => exact hE _ hx u hu
                  | func fi => exact hE _ hx u hu
                refine quiet_spec hF h01 hrr I.sim I.dom (fun b o p hb _ => .inl hb) hE' fun x hv => fin x ?_
                cases g2'
                exact hv
          · -- as it stands
            have hb := hbet (.inl h1)
            have hd := rn.dom pl I.dom hks (by omega) hb
            refine quiet_spec hF h01 hr I.sim hd (fun b o p hb' hp => ?_) hE fun x hv => fin x (by rw [hvr]; exact hv)
            rcases rn.fwd pl k hks (by omega) hb b o hb' with h1 | ⟨j, h4, h5, h6⟩
            · exact .inl h1
            · have h6' := h6
              obtain ⟨q, e1, e2, e3, e4, _⟩ := h6'
              by_cases hin : InL L q.pt.ix
              · exact .inr ⟨j, q, h4, e1, hin, h6⟩
              · have := I.free j q e1 hin b (by omega) (by omega)
                rw [this] at hp; cases hp
        · -- whatever the heap
          have h0 : opKind P t.pt.o.op = 0 := by omega
          have hrr := kind0_free h0 hr (st s).h (st s).n
          exact quiet_spec hF h01 hrr I.sim I.dom (fun b o p hb _ => .inl hb) hE fun x hv => fin x (by rw [hvr]; exact hv)

def unl (L : Array Bool) : Nat := L.toList.countP (fun b => !b)
theorem unl_set {L : Array Bool} {i : Nat} (hi : i < L.size) (hn : ¬ InL L i) : unl (L.setIfInBounds i true) + 1 = unl L := by
  unfold unl
  rw [Array.toList_setIfInBounds, List.countP_set (h := by simpa using hi)]
  have hb : L.toList[i]'(by simpa using hi) = false := by
    cases h : L.toList[i]'(by simpa using hi) with
    | false => rfl
    | true =>
      refine absurd ?_ hn
      unfold InL
      rw [Array.getElem?_eq_getElem hi]
      simpa using h
  have hpos : 0 < L.toList.countP (fun b => !b) := by
    rw [List.countP_pos_iff]
    exact ⟨false, by rw [← hb]; exact List.getElem_mem _, rfl⟩
  simp only [hb, Bool.not_false, Bool.not_true, if_true, Bool.false_eq_true, if_false]
  omega
theorem unl_zero {L : Array Bool} (h : unl L = 0) {i : Nat} (hi : i < L.size) : InL L i := by
  unfold unl at h
  rw [List.countP_eq_zero] at h
  unfold InL
  rw [Array.getElem?_eq_getElem hi]
  have := h L[i] (by simp)
  simpa using this
/-- nothing is ready when all is done, and only then -/
theorem all_of_none (pl : Plan ops l) (hs : L.size = ops.size) (hr : Region.ready .any ops L = []) : ∀ (k : Nat) (t : Stp), l[k]? = some t → InL L t.pt.ix := by
  intro k
  induction k using Nat.strongRecOn with
  | _ k ih =>
    intro t hk
    rcases Classical.em (InL L t.pt.ix) with h | h
    · exact h
    · exfalso
      have := ready_of pl hs hk h (fun x hx => by
        obtain ⟨j, q, h1, h2, h3⟩ := pl.ord k t hk x hx
        rw [← h3]
        exact ih j h1 q h2)
      rw [hr] at this
      cases this
theorem Inv.all (pl : Plan ops l) (rn : Run ops l m st val) (hfit : opsFit N ops.toList = true) {F : Fence} (hF : Open F) {Q : Exit → Act → World → Prop}
    (hQ : ∀ s ι a w L, Inv ops l m st val Bh w0 ι0 N D L s ι a w → (∀ (k : Nat) (t : Stp), l[k]? = some t → InL L t.pt.ix) → Q .normal a w) :
    ∀ (fuel : Nat) (L : Array Bool) (s : Nat) (ι : Mp) (a : Act) (w : World), unl L ≤ fuel → Inv ops l m st val Bh w0 ι0 N D L s ι a w → wpAnyIn F 0 P .any ops Q fuel L a w
  | 0, L, s, ι, a, w, hu, I => by
    have hall : ∀ i, i < L.size → InL L i := fun i hi => unl_zero (by omega) hi
    have hr : Region.ready .any ops L = [] := by
      cases h : Region.ready .any ops L with
      | nil => rfl
      | cons i r =>
        obtain ⟨_, _, hlt, hn, _⟩ := mem_ready (ops := ops) (L := L) (i := i) (by rw [h]; simp)
        exact absurd (hall i (by rw [I.lsize]; exact hlt)) hn
    exact ⟨hr, hQ s ι a w L I (all_of_none pl I.lsize hr)⟩
  | fuel + 1, L, s, ι, a, w, hu, I => by
    refine ⟨fun hr => hQ s ι a w L I (all_of_none pl I.lsize hr), fun i hi => ?_⟩
    obtain ⟨_, _, hlt, hn, _⟩ := mem_ready hi
    have := unl_set (L := L) (by rw [I.lsize]; exact hlt) hn
    exact I.step pl rn hfit hF hi fun s' ι' a' w' I' => Inv.all pl rn hfit hF hQ fuel _ s' ι' a' w' (by omega) I'

variable {f g : Fr} {h : HT} {nx : Nat} {o : O} {cf yf : CF}
/-- what a region that draws its order comes to -/
def AnySpec (ops : Array Oper) (m : Nat) (f : Fr) (h : HT) (nx : Nat) (f' g' : Fr) (h' : HT) (nx' : Nat) : Prop :=
  nx ≤ nx' ∧ ∀ (F : Fence), Open F → ∀ (B : Bd) (w0 : World) (ι : Mp) (w : World) (a : Act) (Q : Exit → Act → World → Prop), Sim B w0 ι h nx w → nx' ≤ B.hi → FR ι (look m f .nil) a.tmps → opsFit a.tmps.size ops.toList = true →
    (∀ ι' a' w', Mp.up nx' ι ι' → FR ι' (look m f' g') a'.tmps → a'.tmps.size = a.tmps.size → a'.defers = a.defers → Sim B w0 ι' h' nx' w' → Q .normal a' w') → wpAnyIn F 0 P .any ops Q ops.size (Array.replicate ops.size false) a w
theorem drawn_spec {ops : Array Oper} (hc : CFok cf) (hy : YFok yf) (ho : o ≠ .fail) (hs : regionK true ops.toList cf yf m f g h nx = o) :
    ∃ f' g' h' nx', o = .nrm f' g' h' nx' ∧ AnySpec ops m f h nx f' g' h' nx' := by
  have hs' : optK (planOf P ops.toList) (fun l => stepsK ops.toList cf yf m O.nrm l f .nil h nx) = o := hs
  obtain ⟨l, hl, hs2⟩ := optK_inv ho hs'
  have pl := planOf_spec hl
  obtain ⟨st, val, e0, eo, htr⟩ := stepsK_trace (ops := ops) hc hy ho l ⟨f, .nil, h, nx⟩ hs2
  have rn : Run ops l m st val := ⟨fun k s hk => (htr k s hk).1, fun k s hk => (htr k s hk).2⟩
  have hm := rn.mono l.length 0 (Nat.zero_le _) (Nat.le_refl _)
  rw [e0] at hm
  dsimp only at hm
  refine ⟨_, _, _, _, eo, hm, fun F hF B w0 ι w a Q S hhi hf hfit hQ => ?_⟩
  have hno : ∀ i, ¬ InL (Array.replicate ops.size false) i := fun i hi => by
    unfold InL at hi
    rw [Array.getElem?_replicate] at hi
    split at hi <;> simp at hi
  have I0 : Inv ops l m st val B.has w0 ι a.tmps.size a.defers (Array.replicate ops.size false) 0 ι a w := by
    refine ⟨by simp, fun k t hk hin => absurd hin (hno _), Nat.zero_le _, fun k t hk h3 => ⟨fun hin => absurd hin (hno _), fun h => by omega⟩, .inl rfl, by rw [e0]; exact S.dom, ?_, ?_, Mp.le.refl _, fun _ _ => rfl,
      fun k t d hk hin => absurd hin (hno _), fun d v _ hv => ?_, rfl, rfl⟩
    · refine (Sim.toR S).sub fun b o p hb _ => ?_
      rcases hb with hb | ⟨k, t, _, _, hin, _⟩
      · rw [e0] at hb; exact hb
      · exact absurd hin (hno _)
    · intro k t hk _ b h1 h2
      have g1 := rn.mono k 0 (Nat.zero_le _) (Nat.le_of_lt (lt_of_at hk))
      have g2 := rn.mono l.length (k + 1) (lt_of_at hk) (Nat.le_refl _)
      rw [e0] at g1
      exact S.fresh b (by simp only at g1; omega) (by omega)
    · rw [e0] at hv; exact hf d v hv
  refine Inv.all pl rn hfit hF (fun s ι' a' w' L I hall => ?_) ops.size _ 0 ι a w ?_ I0
  · have hb : ∀ (j : Nat) (t : Stp), s ≤ j → j < l.length → l[j]? = some t → t.pt.kd ≠ 3 := fun j t hj _ ht h3 => by
      have := (I.heavyIn j t ht h3).1 (hall j t ht)
      omega
    refine hQ ι' a' w' ⟨I.le, I.tail⟩ ?_ I.tsize I.defs ?_
    · intro d v hv
      have hv' : (st l.length).look m d = some v := hv
      by_cases hw : ∃ (j : Nat) (q : Stp), l[j]? = some q ∧ q.pt.o.dst = some d
      · obtain ⟨j, q, hj, hd⟩ := hw
        rw [rn.lookW pl hj hd l.length (lt_of_at hj) (Nat.le_refl _)] at hv'
        cases hv'
        exact I.done j q d hj (hall j q hj) hd
      · rw [rn.lookN l.length (Nat.le_refl _) (fun j q _ hj hd => hw ⟨j, q, hj, hd⟩)] at hv'
        exact I.rest d v (fun j q hj _ hd => hw ⟨j, q, hj, hd⟩) hv'
    · refine ((I.sim.sub fun b o p hb' hp => ?_).toSim (nx := (st l.length).n) (hi := B.hi) (rn.dom pl I.dom I.sle (Nat.le_refl _) hb) fun b h1 h2 => ?_)
      · rcases rn.fwd pl l.length I.sle (Nat.le_refl _) hb b o hb' with h1 | ⟨j, h1, h2, h4⟩
        · exact .inl h1
        · obtain ⟨q, e1, e2⟩ := h4
          exact .inr ⟨j, q, h1, e1, hall j q e1, q, e1, e2⟩
      · rw [I.tail b h1]
        exact S.fresh b (by omega) h2
  · unfold unl
    rw [Array.toList_replicate]
    exact Nat.le_trans List.countP_le_length (by simp)
end Go.Ev.F
