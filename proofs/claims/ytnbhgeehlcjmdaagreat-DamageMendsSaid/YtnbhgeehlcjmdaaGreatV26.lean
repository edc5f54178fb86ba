/- Proved here: what the heaps and the names are along the plan of a region that draws its order. -/
import Derived.Test.YtnbhgeehlcjmdaaGreatV25
namespace Go.Ev.F
open Go Go.Ev
variable {ops : Array Oper} {l : List Stp} {m : Nat} {st : Nat → St} {val : Nat → AV}

/-- the run along the plan -/
structure Run (ops : Array Oper) (l : List Stp) (m : Nat) (st : Nat → St) (val : Nat → AV) : Prop where
  step : ∀ (k : Nat) (s : Stp), l[k]? = some s → StepI ops m s.pt.o (st k) (val k) (st (k + 1))
  again : ∀ (k : Nat) (s : Stp), l[k]? = some s → ∀ p ∈ s.re, F.again P ops.toList (evalA m (st (k + 1)).f (st (k + 1)).g) (st (k + 1)).h p.o = true

theorem lt_of_at {k : Nat} {s : Stp} (h : l[k]? = some s) : k < l.length := (List.getElem?_eq_some_iff.1 h).1
theorem at_of_lt {k : Nat} (h : k < l.length) : ∃ s, l[k]? = some s := ⟨l[k], by simp [h]⟩
theorem Run.mono (rn : Run ops l m st val) : ∀ (k j : Nat), j ≤ k → k ≤ l.length → (st j).n ≤ (st k).n
  | 0, j, h, _ => by
    have : j = 0 := by omega
    subst this; exact Nat.le_refl _
  | k + 1, j, h, hk => by
    by_cases e : j = k + 1
    · subst e; exact Nat.le_refl _
    · obtain ⟨s, hs⟩ := at_of_lt (l := l) (k := k) (by omega)
      exact Nat.le_trans (Run.mono rn k j (by omega) (by omega)) (rn.step k s hs).mono
theorem Run.next_look (rn : Run ops l m st val) {k : Nat} {s : Stp} (hs : l[k]? = some s) (d : Tmp) : (st (k + 1)).look m d = if s.pt.o.dst = some d then some (val k) else (st k).look m d := by
  have h := rn.step k s hs
  simp only [St.look, h.f, h.g]
  exact look_put _ _ _ _ _ _
/-- a name that was written -/
theorem Run.lookW (pl : Plan ops l) (rn : Run ops l m st val) {j : Nat} {q : Stp} {d : Tmp} (hj : l[j]? = some q) (hd : q.pt.o.dst = some d) : ∀ (k : Nat), j < k → k ≤ l.length → (st k).look m d = some (val j)
  | 0, h, _ => by omega
  | k + 1, h, hk => by
    obtain ⟨s, hs⟩ := at_of_lt (l := l) (k := k) (by omega)
    rw [rn.next_look hs]
    by_cases e : j = k
    · subst e
      rw [hj] at hs; cases hs
      rw [if_pos hd]
    · rw [if_neg (pl.names k j s q d hs hj (fun e' => e e'.symm) hd).1]
      exact Run.lookW pl rn hj hd k (by omega) (by omega)
/-- a name that wasn't -/
theorem Run.lookN (rn : Run ops l m st val) {d : Tmp} : ∀ (k : Nat), k ≤ l.length → (∀ (j : Nat) (q : Stp), j < k → l[j]? = some q → q.pt.o.dst ≠ some d) → (st k).look m d = (st 0).look m d
  | 0, _, _ => rfl
  | k + 1, hk, h => by
    obtain ⟨s, hs⟩ := at_of_lt (l := l) (k := k) (by omega)
    rw [rn.next_look hs, if_neg (h k s (by omega) hs)]
    exact Run.lookN rn k (by omega) (fun j q hj hq => h j q (by omega) hq)

/-- a light step: nothing changes, or there is one new object -/
theorem Run.light (pl : Plan ops l) (rn : Run ops l m st val) {k : Nat} {s : Stp} (hs : l[k]? = some s) (hk : s.pt.kd ≠ 3) :
    ((st (k + 1)).h = (st k).h ∧ (st (k + 1)).n = (st k).n) ∨ (s.pt.kd = 2 ∧ ∃ ob, (st (k + 1)).h = hset (st k).h (st k).n (some ob) ∧ (st (k + 1)).n = (st k).n + 1) := by
  have h := rn.step k s hs
  obtain ⟨_, _, hkd, _⟩ := pl.at' k s hs
  rcases h.how with ⟨_, _, h1, h2⟩ | ⟨_, _, h3 | ⟨q, h3, _, h4, h5⟩⟩
  · exact .inl ⟨h1, h2⟩
  · exact absurd (hkd.trans h3) hk
  · by_cases h01 : opKind P s.pt.o.op ≤ 1
    · have e := kind01_same h01 h3
      rw [e] at h4 h5
      exact .inl ⟨h4, h5⟩
    · by_cases h2 : opKind P s.pt.o.op = 2
      · right
        obtain ⟨v, ob, rfl⟩ := kind2_shape h2 h3
        exact ⟨hkd.trans h2, ob, h4, h5⟩
      · exfalso
        have : opKind P s.pt.o.op ≤ 3 := by
          unfold opKind
          repeat' split
          all_goals decide
        rw [hkd] at hk
        omega
/-- an object that a light step made -/
def Al (l : List Stp) (st : Nat → St) (k b : Nat) (o : Obj) : Prop :=
  ∃ t, l[k]? = some t ∧ t.pt.kd = 2 ∧ b = (st k).n ∧ (st (k + 1)).n = b + 1 ∧ hget (st (k + 1)).h b = some o
theorem Run.fwd (pl : Plan ops l) (rn : Run ops l m st val) {s : Nat} : ∀ (k : Nat), s ≤ k → k ≤ l.length → (∀ (j : Nat) (t : Stp), s ≤ j → j < k → l[j]? = some t → t.pt.kd ≠ 3) →
    ∀ b o, hget (st k).h b = some o → hget (st s).h b = some o ∨ ∃ j, s ≤ j ∧ j < k ∧ Al l st j b o
  | 0, h, _, _, b, o, hb => by
    have : s = 0 := by omega
    subst this; exact .inl hb
  | k + 1, h, hk, hl, b, o, hb => by
    by_cases e : s = k + 1
    · subst e; exact .inl hb
    · obtain ⟨t, ht⟩ := at_of_lt (l := l) (k := k) (by omega)
      have back : hget (st k).h b = some o → hget (st s).h b = some o ∨ ∃ j, s ≤ j ∧ j < k + 1 ∧ Al l st j b o := fun h1 => by
        rcases Run.fwd pl rn k (by omega) (by omega) (fun j t h1 h2 h3 => hl j t h1 (by omega) h3) b o h1 with h2 | ⟨j, h2, h3, h4⟩
        · exact .inl h2
        · exact .inr ⟨j, h2, by omega, h4⟩
      rcases rn.light pl ht (hl k t (by omega) (by omega) ht) with ⟨h1, _⟩ | ⟨h0, ob, h1, h2⟩
      · rw [h1] at hb; exact back hb
      · have hb' := hb
        rw [h1] at hb'
        rcases hget_hset hb' with ⟨e1, _⟩ | ⟨_, e1⟩
        · exact .inr ⟨k, by omega, by omega, t, ht, h0, e1, by rw [h2, e1], hb⟩
        · exact back e1
theorem Al.lt {k b : Nat} {o : Obj} (h : Al l st k b o) : b < (st (k + 1)).n := by obtain ⟨_, _, _, _, h, _⟩ := h; omega
theorem Run.dom (pl : Plan ops l) (rn : Run ops l m st val) {s k : Nat} (hd : Dom (st s).h (st s).n) (h : s ≤ k) (hk : k ≤ l.length) (hl : ∀ (j : Nat) (t : Stp), s ≤ j → j < k → l[j]? = some t → t.pt.kd ≠ 3) : Dom (st k).h (st k).n := by
  intro b o hb
  rcases rn.fwd pl k h hk hl b o hb with h1 | ⟨j, h1, h2, h3⟩
  · exact Nat.lt_of_lt_of_le (hd b o h1) (rn.mono k s h hk)
  · exact Nat.lt_of_lt_of_le h3.lt (rn.mono k (j + 1) (by omega) hk)
/-- kinds 0 and 1: no new number -/
theorem Run.flat (pl : Plan ops l) (rn : Run ops l m st val) {k : Nat} {s : Stp} (hs : l[k]? = some s) (hk : s.pt.kd ≤ 1) : (st (k + 1)).n = (st k).n := by
  rcases rn.light pl hs (by omega) with ⟨_, h⟩ | ⟨h, _⟩
  · exact h
  · omega
theorem Plan.kd_le (pl : Plan ops l) {k : Nat} {s : Stp} (hs : l[k]? = some s) : s.pt.kd ≤ 3 := by
  obtain ⟨_, _, h, _⟩ := pl.at' k s hs
  rw [h]
  unfold opKind
  repeat' split
  all_goals decide

/-! what is looked at again -/
theorem same0_eq {a b : AV} (h : same0 a b = true) : a = b := by
  unfold same0 at h
  split at h <;> simp_all
theorem sameL_eq : ∀ {a b : List AV}, sameL a b = true → a = b
  | [], [], _ => rfl
  | a :: r, b :: s, h => by
    simp only [sameL, Bool.and_eq_true] at h
    rw [same0_eq h.1, sameL_eq h.2]
  | [], _ :: _, h => by simp [sameL] at h
  | _ :: _, [], h => by simp [sameL] at h
theorem sameV_eq {a b : AV} (h : sameV a b = true) : a = b := by
  unfold sameV at h
  split at h
  · rw [sameL_eq h]
  · exact same0_eq h
/-- the read's value is still what it was -/
theorem again_spec {ops : Array Oper} {ρ : Env} {h : HT} {o : Oper} {d : Tmp} (hd : o.dst = some d) (ha : again P ops.toList ρ h o = true) (hw : Wanted ops o (fun t => ρ (.tmp t))) :
    ∃ r v, opS P ρ o.op h 0 = some r ∧ ρ (.tmp d) = some v ∧ r.1 = v := by
  have hgo : (match o.dst, opS P ρ o.op h 0 with
    | some d, some (v, _, _) => (match ρ (.tmp d) with | some w => sameV v w | none => false)
    | _, _ => false) = true := by
    unfold again at ha
    rcases hw with hg | ⟨j, want, d', hg, hd', hl⟩
    · rw [hg] at ha; exact ha
    · rw [hg] at ha
      simp only at ha
      unfold dstOf at hd'
      cases hq : ops.toList[j]? with
      | none => rw [hq] at hd'; simp at hd'
      | some q =>
        rw [hq] at hd'
        simp only at hd'
        simp only [hq, hd', hl, beq_self_eq_true, if_true] at ha
        exact ha
  rw [hd] at hgo
  cases hr : opS P ρ o.op h 0 with
  | none => rw [hr] at hgo; simp at hgo
  | some r =>
    obtain ⟨v, u, n⟩ := r
    rw [hr] at hgo
    simp only at hgo
    cases hv : ρ (.tmp d) with
    | none => rw [hv] at hgo; simp at hgo
    | some w =>
      rw [hv] at hgo
      exact ⟨_, w, rfl, rfl, sameV_eq hgo⟩
end Go.Ev.F
