/- Proved here: what the reckoner says of maps is what the model does. -/
import Derived.Test.YtnbhgeehlcjmdaaGreatV12
namespace Go.Ev
open Go
variable {P : Program} {w w0 : World} {ι : Mp} {B : Bd} {h : HT} {nx : Nat} {ρ : Env} {ρc : Operand → Value} {o : Oper} {r : AV × Ups × Nat}

/-! keys: integers, and arrays of such -/
def isIntV : AV → Bool
  | .int _ _ => true
  | _ => false
inductive KeyV (P : Program) (t : TypeId) : AV → Prop
  | int (k : IntKind) (n : Int) (h : isInt P t = true) : KeyV P t (.int k n)
  | arr {l : List AV} (h : flatArr P t = some l.length) (ha : ∀ v ∈ l, isIntV v = true) : KeyV P t (.agg l)
theorem keyOK_spec {t : TypeId} {k : AV} (h : keyOK P t k = true) : KeyV P t k := by
  unfold keyOK at h
  split at h
  · exact .int _ _ h
  · simp only [Bool.and_eq_true, beq_iff_eq, List.all_eq_true] at h
    refine .arr h.1 fun v hv => ?_
    have := h.2 v hv
    cases v <;> simp_all [isIntV]
  · simp at h
theorem eqInts_true : ∀ {a b : List AV}, eqInts a b = some true → a = b
  | [], [], _ => rfl
  | [], _ :: _, h => by simp [eqInts] at h
  | a :: r, [], h => by cases a <;> simp [eqInts] at h
  | a :: r, b :: s, h => by
    obtain ⟨k, x, y, rfl, rfl, hc⟩ := eqInts_cons h
    rcases hc with ⟨rfl, h'⟩ | ⟨_, h'⟩
    · rw [eqInts_true h']
    · cases h'
theorem eqKey_true {a b : AV} (h : eqKey a b = some true) : a = b := by
  unfold eqKey at h
  split at h
  · split at h
    · rename_i e; simp at h; subst e; subst h; rfl
    · simp at h
  · rw [eqInts_true h]
  · simp at h
theorem VRs.inj : ∀ {l : List AV} {a b : List Value}, (∀ v ∈ l, isIntV v = true) → VRs ι l a → VRs ι l b → a = b
  | [], _, _, _, .nil, .nil => rfl
  | v :: l, _, _, hi, .cons h t, .cons h' t' => by
    have hv := hi v (by simp)
    cases v <;> simp [isIntV] at hv
    cases h; cases h'
    rw [VRs.inj (fun u hu => hi u (by simp [hu])) t t']
theorem VR.keyInj {t : TypeId} {k : AV} {a b : Value} (hk : KeyV P t k) (ha : VR ι k a) (hb : VR ι k b) : a = b := by
  cases hk with
  | int => cases ha; cases hb; rfl
  | arr h hi =>
    cases ha with
    | agg ha => cases hb with
      | agg hb => exact congrArg Value.agg (Array.ext' (VRs.inj hi ha hb))
theorem same_ints : ∀ {l : List AV} {a : List Value}, (∀ v ∈ l, isIntV v = true) → VRs ι l a → ∀ n, ((a.zip a).all fun (x, y) => Instr.sameBits n x y) = true
  | [], _, _, .nil, _ => rfl
  | v :: l, _, hi, .cons h t, n => by
    have hv := hi v (by simp)
    cases v <;> simp [isIntV] at hv
    cases h
    simp only [List.zip_cons_cons, List.all_cons, same_ints (fun u hu => hi u (by simp [hu])) t n, Bool.and_true]
    simp [Instr.sameBits]
theorem sameBits_key {t : TypeId} {k : AV} {a : Value} (hk : KeyV P t k) (ha : VR ι k a) : Instr.sameBits 10000 a a = true := by
  cases hk with
  | int => cases ha; simp [Instr.sameBits]
  | arr h hi =>
    cases ha with
    | agg ha =>
      have := same_ints hi ha 9999
      show Instr.sameBits (9999 + 1) _ _ = true
      simp only [Instr.sameBits, beq_self_eq_true, Bool.true_and]
      exact this
theorem run_keyStays {t : TypeId} {k : AV} {a : Value} (hk : KeyV P t k) (ha : VR ι k a) : (Instr.keyThatStays a a).run P w = .ok a w := by
  simp only [Instr.keyThatStays, sameBits_key hk ha, if_true, Sem.run_pure]

theorem run_checkInt {e : TypeId} {lv : AV} {x : Value} (q : Bool) (d : Nat) (hi : isInt P e = true) (hv : VR ι lv x) (hvi : isIntV lv = true) : (Instr.checkKey q (d + 1) e x).run P w = .ok () w := by
  obtain ⟨k', h1, _⟩ := isInt_spec hi
  cases lv <;> simp [isIntV] at hvi
  cases hv
  simp only [Instr.checkKey, Sem.run_bind, run_underlying' h1, Result.andThen_ok, Sem.run_pure]
theorem run_checkKey {t : TypeId} {k : AV} {a : Value} (q : Bool) (d : Nat) (hd0 : 0 < d) (hk : KeyV P t k) (ha : VR ι k a) : (Instr.checkKey q (d + 1) t a).run P w = .ok () w := by
  cases hk with
  | int kk n hi => exact run_checkInt q d hi ha rfl
  | arr h hi =>
    cases ha with
    | agg ha =>
      rename_i l c
      unfold flatArr at h
      split at h
      · rename_i len e hd
        split at h
        · rename_i hint
          simp at h
          obtain ⟨k', h1, h2⟩ := isInt_spec hint
          simp only [Instr.checkKey, Sem.run_bind, run_underlying' hd, Result.andThen_ok, Std.Legacy.Range.forIn_eq_forIn_range', Std.Legacy.Range.size, Nat.sub_zero, Nat.add_sub_cancel, Nat.div_one]
          have aux : ∀ (n s : Nat), s + n = len → (forIn (List.range' s n 1) PUnit.unit (fun i _ => (do Instr.checkKey q d e (← part e c (i * (← Go.sizeOf e))); pure (ForInStep.yield PUnit.unit) : Sem (ForInStep PUnit)))).run P w = .ok PUnit.unit w := by
            intro n
            induction n with
            | zero => intro s _; simp
            | succ n ih =>
              intro s hs
              have hlt : s < l.length := by omega
              obtain ⟨x, hx, hv⟩ := ha.get (i := s) (a := l[s]) (by simp [hlt])
              have hvi := hi l[s] (by simp)
              have hx' : c[s]? = some x := by simpa using hx
              have hck : (Instr.checkKey q d e x).run P w = .ok () w := by
                obtain ⟨d, rfl⟩ := Nat.exists_eq_succ_of_ne_zero (Nat.pos_iff_ne_zero.1 hd0)
                exact run_checkInt q d hint hv hvi
              simp only [List.range'_succ, List.forIn_cons, Sem.run_bind, run_sizeOf' h2, Nat.mul_one, run_part_int hint hx', hck, Result.andThen_ok, Sem.run_pure]
              exact ih (s + 1) (by omega)
          rw [aux len 0 (by omega)]
          simp only [Result.andThen_ok, Sem.run_pure]
        · simp at h
      · simp at h

/-- is a key another one? the model's word -/
theorem run_eqKey {t : TypeId} {k k' : AV} {a b : Value} {q : Bool} (hk : KeyV P t k) (ha : VR ι k a) (hb : VR ι k' b) (hq : eqKey k k' = some q) : (Op.equal t a b).run P w = .ok q w := by
  cases hk with
  | int kk n hi =>
    cases ha
    cases k' <;> simp [eqKey] at hq
    obtain ⟨e, rfl⟩ := hq
    cases hb
    exact run_equal_int 9999 hi e
  | arr h hi =>
    cases k' <;> simp only [eqKey] at hq <;> try (simp at hq; done)
    cases ha with
    | agg ha =>
      cases hb with
      | agg hb => exact run_equal_arr (d := 9998) h rfl ha hb hq

theorem sameNow_eq {t : TypeId} {k k' : AV} {a b : Value} {q : Bool} (hi : isInt P t = true) {d : TypeDesc} (hd : P.underlying t = some d) (hk : isIntV k = true) (ha : VR ι k a) (hb : VR ι k' b) (hq : eqKey k k' = some q) : Instr.sameNow d a b = some q := by
  obtain ⟨k1, h1, _⟩ := isInt_spec hi
  rw [hd] at h1; cases h1
  cases k <;> simp [isIntV] at hk
  cases ha
  cases k' <;> simp [eqKey] at hq
  obtain ⟨e, rfl⟩ := hq
  cases hb
  simp [Instr.sameNow, e]

/-- where a key is found -/
def Found (k : AV) (es : List (AV × AV × Nat)) (m : List MapEntry) (ι : Mp) (q : Option (AV × Nat)) (j : Option (Nat × Value)) : Prop :=
  match q, j with
  | none, none => True
  | some (v, b), some (i, x) => ∃ e, m[i]? = some e ∧ es[i]? = some (k, v, b) ∧ x = e.val ∧ VR ι v e.val ∧ VR ι k e.key ∧ e.born = b ∧ ∀ nv, mapPut k nv es = some (es.set i (k, nv, b))
  | _, _ => False
theorem Found.cons {k : AV} {es : List (AV × AV × Nat)} {m : List MapEntry} {q : Option (AV × Nat)} {j : Option (Nat × Value)} {k' v' : AV} {b' : Nat} {e' : MapEntry} (h : Found k es m ι q j) (hf : eqKey k k' = some false) :
    Found k ((k', v', b') :: es) (e' :: m) ι q (j.map fun p => (p.1 + 1, p.2)) := by
  unfold Found at h ⊢
  cases q with
  | none => cases j with | none => trivial | some => exact h
  | some q => cases j with
    | none => exact h
    | some j =>
      obtain ⟨e, h1, h2, h3, h4, h5, h6, h7⟩ := h
      exact ⟨e, by simpa using h1, by simpa using h2, h3, h4, h5, h6, fun nv => by simp [mapPut, hf, h7 nv]⟩
theorem findAsking_ok {t : TypeId} {k : AV} {a : Value} (hk : KeyV P t k) (ha : VR ι k a) {es : List (AV × AV × Nat)} {m : List MapEntry} (hm : ER ι es m) : ∀ {q : Option (AV × Nat)} (i : Nat), mapFind k es = some q →
    ∃ j, Found k es m ι q j ∧ (Instr.findAsking t a m i).run P w = .ok (j.map fun p => (p.1 + i, p.2)) w := by
  induction hm with
  | nil => intro q i hq; simp [mapFind] at hq; subst hq; exact ⟨none, trivial, by simp [Instr.findAsking]⟩
  | cons hk' hv hb ht ih =>
    intro q i hq
    simp only [mapFind] at hq
    split at hq
    · rename_i he
      simp at hq; subst hq
      have := eqKey_true he; subst this
      refine ⟨some (0, _), ⟨_, by simp, by simp, rfl, hv, hk', hb, fun nv => by simp [mapPut, he]⟩, ?_⟩
      simp only [Instr.findAsking, Sem.run_bind, run_eqKey hk ha hk' he, Result.andThen_ok, if_true, Sem.run_pure, Option.map_some, Nat.zero_add]
    · rename_i he
      obtain ⟨j, h1, h2⟩ := ih (i + 1) hq
      refine ⟨_, h1.cons he, ?_⟩
      simp only [Instr.findAsking, Sem.run_bind, run_eqKey hk ha hk' he, Result.andThen_ok, Bool.false_eq_true, if_false, h2, Option.map_map]
      congr 2
      funext p
      simp only [Function.comp]
      congr 1; omega
    · simp at hq
theorem findNow_ok {t : TypeId} {k : AV} {a : Value} {d : TypeDesc} (hi : isInt P t = true) (hd : P.underlying t = some d) (hk : isIntV k = true) (ha : VR ι k a) {es : List (AV × AV × Nat)} {m : List MapEntry} (hm : ER ι es m) :
    ∀ {q : Option (AV × Nat)} (i : Nat), mapFind k es = some q → ∃ j, Found k es m ι q j ∧ Instr.findNow d a m i = some (j.map fun p => (p.1 + i, p.2)) := by
  induction hm with
  | nil => intro q i hq; simp [mapFind] at hq; subst hq; exact ⟨none, trivial, by simp [Instr.findNow]⟩
  | cons hk' hv hb ht ih =>
    intro q i hq
    simp only [mapFind] at hq
    split at hq
    · rename_i he
      simp at hq; subst hq
      have := eqKey_true he; subst this
      refine ⟨some (0, _), ⟨_, by simp, by simp, rfl, hv, hk', hb, fun nv => by simp [mapPut, he]⟩, ?_⟩
      simp only [Instr.findNow, sameNow_eq hi hd hk ha hk' he, Option.map_some, Nat.zero_add]
    · rename_i he
      obtain ⟨j, h1, h2⟩ := ih (i + 1) hq
      refine ⟨_, h1.cons he, ?_⟩
      simp only [Instr.findNow, sameNow_eq hi hd hk ha hk' he, h2, Option.map_map]
      congr 2
      funext p
      simp only [Function.comp]
      congr 1; omega
    · simp at hq
theorem findKey_ok {t : TypeId} {k : AV} {a : Value} (hk : KeyV P t k) (ha : VR ι k a) {es : List (AV × AV × Nat)} {m : List MapEntry} (hm : ER ι es m) {q : Option (AV × Nat)} (hq : mapFind k es = some q) :
    ∃ j, Found k es m ι q j ∧ (Instr.findKey t a m).run P w = .ok j w := by
  cases hk with
  | int kk n hi =>
    obtain ⟨k1, h1, _⟩ := isInt_spec hi
    obtain ⟨j, h2, h3⟩ := findNow_ok (P := P) hi h1 rfl ha hm 0 hq
    refine ⟨j, h2, ?_⟩
    have e : (j.map fun p : Nat × Value => (p.1 + 0, p.2)) = j := by cases j <;> rfl
    simp only [Instr.findKey, Sem.run_bind, run_underlying' h1, Result.andThen_ok, h3, e, Sem.run_pure]
  | arr h hi =>
    obtain ⟨j, h2, h3⟩ := findAsking_ok (P := P) (w := w) (.arr h hi) ha hm 0 hq
    refine ⟨j, h2, ?_⟩
    have e : (j.map fun p : Nat × Value => (p.1 + 0, p.2)) = j := by cases j <;> rfl
    rw [e] at h3
    unfold flatArr at h
    split at h
    · rename_i len el hd
      cases ha with
      | agg ha =>
        cases hm with
        | nil =>
          simp [mapFind] at hq; subst hq
          cases j with
          | none => simp only [Instr.findKey, Sem.run_bind, run_underlying' hd, Result.andThen_ok, Instr.findNow, Sem.run_pure]
          | some => exact absurd h2 (by simp [Found])
        | cons hk' hv hb ht =>
          simp only [Instr.findKey, Sem.run_bind, run_underlying' hd, Result.andThen_ok, Instr.findNow, Instr.sameNow, h3]
    · simp at h
end Go.Ev
