/- Proved here: calls of functions, by the kernel's run. -/
import Derived.Test.YtnbhgeehlcjmdaaGreatV30
namespace Go.Ev.F
open Go Go.Ev
variable {f g : Fr} {h : HT} {nx m : Nat} {o : O} {cf yf : CF}

theorem opsFit_mono {N N' : Nat} (hn : N ≤ N') {l : List Oper} (h : opsFit N l = true) : opsFit N' l = true := by
  unfold opsFit at h ⊢
  rw [List.all_eq_true] at h ⊢
  intro x hx
  have := h x hx
  split at this
  · rename_i d hd
    simp only [decide_eq_true_eq] at this ⊢
    exact Nat.lt_of_lt_of_le this hn
  · rfl
theorem fits_mono {N N' : Nat} (hn : N ≤ N') : ∀ (c : Code) {r : Bool}, fits r N c = true → fits r N' c = true
  | .skip, _, _ => rfl
  | .region _ _ _, _, h => opsFit_mono hn h
  | .seq a b, _, h => by
    simp only [fits, Bool.and_eq_true] at h ⊢
    exact ⟨fits_mono hn a h.1, fits_mono hn b h.2⟩
  | .cond _ a b, _, h => by
    simp only [fits, Bool.and_eq_true] at h ⊢
    exact ⟨fits_mono hn a h.1, fits_mono hn b h.2⟩
  | .block _ a, _, h => fits_mono hn a h
  | .loop a, _, h => fits_mono hn a h
  | .rangeFunc _ ps a b, _, h => by
    simp only [fits, Bool.and_eq_true] at h ⊢
    refine ⟨⟨⟨h.1.1.1, ?_⟩, fits_mono hn a h.1.2⟩, fits_mono hn b h.2⟩
    have := h.1.1.2
    rw [List.all_eq_true] at this ⊢
    intro t ht
    have := this t ht
    simp only [decide_eq_true_eq] at this ⊢
    exact Nat.lt_of_lt_of_le this hn
  | .exit _, _, _ => rfl
  | .scope _, _, h => by simp [fits] at h
  | .label _, _, _ => rfl
  | .goto _, _, _ => rfl
  | .ret, _, _ => rfl
  | .refuse _, _, _ => rfl

/-! a function's results -/
def oneV : List AV → AV
  | [v] => v
  | l => .tup l
theorem oneRes_eq (κ : KV) (l : List AV) : oneRes κ l = κ (oneV l) := by
  cases l with
  | nil => rfl
  | cons v r => cases r <;> rfl
/-- what a result is -/
noncomputable def resA (m : Nat) (h : HT) (f g : Fr) : ResultVar → Option AV
  | .tmp t => look m f g t
  | .cell a t => match look m f g a with
    | some (.ptr b off) => loadA P h t b off
    | _ => none
noncomputable def resAs (m : Nat) (h : HT) (f g : Fr) : List ResultVar → Option (List AV)
  | [] => some []
  | r :: rs => match resA m h f g r with
    | some v => (match resAs m h f g rs with | some l => some (v :: l) | none => none)
    | none => none
theorem resK_inv (ho : o ≠ .fail) : ∀ {rs : List ResultVar} {κ : KL}, resK m h f g rs κ = o → ∃ l, resAs m h f g rs = some l ∧ κ l = o
  | [], κ, hs => ⟨[], rfl, hs⟩
  | r :: rs, κ, hs => by
    have hs' : resT r m h f g (fun v => resK m h f g rs (fun l => κ (v :: l))) = o := hs
    have h1 : ∃ v, resA m h f g r = some v ∧ resK m h f g rs (fun l => κ (v :: l)) = o := by
      cases r with
      | tmp t => exact getK_inv ho hs'
      | cell a t =>
        have hs2 : getK a m f g (fun v => ptrK v (loadP t (fun v => resK m h f g rs (fun l => κ (v :: l))) h)) = o := hs'
        obtain ⟨u, h1, h2⟩ := getK_inv ho hs2
        obtain ⟨b, off, rfl, h3⟩ := ptrK_inv ho h2
        obtain ⟨v, h4, h5⟩ := loadP_inv ho h3
        exact ⟨v, by simp only [resA, h1]; exact h4, h5⟩
    obtain ⟨v, h1, h2⟩ := h1
    obtain ⟨l, h3, h4⟩ := resK_inv ho h2
    exact ⟨v :: l, by simp only [resAs, h1, h3], h4⟩
def resVal (tmps : Array Value) : ResultVar → Sem Value
  | .tmp t => pure (tmps.getD t undef)
  | .cell a t => do loadVar t (← asAddr (tmps.getD a undef))
theorem resA_run {B : Bd} {w0 w : World} {ι : Mp} {tmps : Array Value} (S : Sim B w0 ι h nx w) (hf : FR ι (look m f g) tmps) {r : ResultVar} {v : AV} (hr : resA m h f g r = some v) : ∃ x, (resVal tmps r).run P w = .ok x w ∧ VR ι v x := by
  cases r with
  | tmp t =>
    obtain ⟨x, hx, hv⟩ := hf t v hr
    exact ⟨x, by simp [resVal, hx], hv⟩
  | cell a t =>
    simp only [resA] at hr
    split at hr
    · rename_i b off ha
      obtain ⟨x, hx, hv⟩ := hf a _ ha
      cases hv with
      | ptr off hp =>
        rename_i p
        unfold loadA at hr
        split at hr
        · rename_i cs hcs
          have hob := S.objs b _ p (cellsOf_spec hcs) hp
          obtain ⟨y, hy, hvy⟩ := run_loadVar' (P := P) hob hr
          have hx' : tmps.getD a undef = .pointer (some ⟨p.blk, p.base + off, none⟩) := by simp [hx]
          refine ⟨y, ?_, hvy⟩
          simp only [resVal, hx', asAddr, Sem.run_bind, Sem.run_pure, Result.andThen_ok, hy]
        · cases hr
    · cases hr
theorem resAs_run {B : Bd} {w0 w : World} {ι : Mp} {tmps : Array Value} (S : Sim B w0 ι h nx w) (hf : FR ι (look m f g) tmps) : ∀ {rs : List ResultVar} {l : List AV}, resAs m h f g rs = some l → ∃ xs, (rs.mapM (resVal tmps)).run P w = .ok xs w ∧ VRs ι l xs
  | [], l, hr => by simp [resAs] at hr; subst hr; exact ⟨[], by simp, .nil⟩
  | r :: rs, l, hr => by
    simp only [resAs] at hr
    split at hr
    · rename_i v hv
      split at hr
      · rename_i l' hl
        simp at hr; subst hr
        obtain ⟨x, h1, h2⟩ := resA_run S hf hv
        obtain ⟨xs, h3, h4⟩ := resAs_run S hf hl
        exact ⟨x :: xs, by simp only [List.mapM_cons, Sem.run_bind, h1, h3, Result.andThen_ok, Sem.run_pure], .cons h2 h4⟩
      · cases hr
    · cases hr
theorem results_run {B : Bd} {w0 w : World} {ι : Mp} {tmps : Array Value} {fn : Func} {l : List AV} (S : Sim B w0 ι h nx w) (hf : FR ι (look m f g) tmps) (hr : resAs m h f g fn.results.toList = some l) :
    ∃ x, (results fn tmps).run P w = .ok x w ∧ VR ι (oneV l) x := by
  obtain ⟨xs, h1, h2⟩ := resAs_run S hf hr
  have hm : (fn.results.mapM (resVal tmps)).run P w = .ok xs.toArray w := by
    rw [Array.mapM_eq_mapM_toList]
    simp only [Sem.run_map, h1, Result.andThen_ok]
  have hres : (results fn tmps).run P w = .ok (if h : xs.toArray.size = 1 then xs.toArray[0] else .tuple xs.toArray) w := by
    have e : results fn tmps = (fn.results.mapM (resVal tmps) >>= fun vs => pure (if h : vs.size = 1 then vs[0] else .tuple vs)) := by
      unfold results
      refine congrArg (fun F => (Array.mapM F fn.results >>= fun vs => pure (if h : vs.size = 1 then vs[0] else Value.tuple vs))) ?_
      funext r
      cases r <;> rfl
    rw [e]
    simp only [Sem.run_bind, hm, Result.andThen_ok, Sem.run_pure]
  refine ⟨_, hres, ?_⟩
  cases h2 with
  | nil => exact .tup .nil
  | cons hv ht =>
    cases ht with
    | nil => exact hv
    | cons hv2 ht => exact VR.tup (c := (_ :: _ :: _ : List Value).toArray) (.cons hv (.cons hv2 ht))

/-! on the way out -/
theorem Sim.putDef {B : Bd} {w0 w : World} {ι : Mp} {r : Nat} {y : Option (List Deferred)} (S : Sim B w0 ι h nx w) (hB : B r) (hr : w.heap[r]? = some (.deferred y)) (x : Go.Obj) : Sim B w0 ι h nx (w.putObj r x) := by
  refine ⟨fun b o p hb hp => ?_, S.dom, S.inj, S.fresh, S.mine, fun k hk => ?_, S.newB, by simp only [World.putObj_size]; exact S.size, S.os, S.tape, S.output⟩
  · have hne : p.blk ≠ r := by
      rintro rfl
      have := S.objs b o p hb hp
      rw [hr] at this
      exact ObjR.notDef this
    rw [World.putObj_heap_other hne]
    exact S.objs b o p hb hp
  · rw [World.putObj_heap_other (fun e => hk (by rw [e]; exact hB))]
    exact S.old k hk
theorem Marks.put {Bh : Nat → Prop} {w : World} {r : Nat} {x : Go.Obj} : ∀ {ds : List Deferred}, (∀ d' ∈ ds, d'.target ≠ .collected r) → Marks Bh ds w → Marks Bh ds (w.putObj r x)
  | [], _, _ => trivial
  | d :: ds, hn, ⟨⟨k, h1, hb, h2, h3⟩, ht⟩ => by
    refine ⟨⟨k, h1, hb, ?_, h3⟩, Marks.put (fun d' hd' => hn d' (by simp [hd'])) ht⟩
    rw [World.putObj_heap_other (fun e => hn d (by simp) (by rw [← e]; exact h1))]
    exact h2
theorem leave_marks {F : Fence} {B : Bd} {w0 : World} {ι : Mp} {fn : Func} {tmps : Array Value} {R : Ending → World → Prop} : ∀ (ds : List Deferred) (w : World), Marks B.has ds w → Sim B w0 ι h nx w →
    (∀ w', Sim B w0 ι h nx w' → LeavesIn F 0 P fn tmps R [] .returning w') → LeavesInM F 0 P fn tmps R ds .returning w
  | [], w, _, S, hk => hk w S
  | d :: ds, w, ⟨⟨r, h1, hb, h2, h3⟩, ht⟩, S, hk => ⟨by simp, .inl ⟨r, _, h1, run_takeDeferred h2, leave_marks ds _ (Marks.put h3 ht) (Sim.putDef S hb h2 _) hk⟩⟩

theorem framK_eq : ∀ (l : List AV) (i : Nat) (f : Fr) (κ : Fr → O), ∃ f', framK l i f κ = κ f' ∧ ∀ t, f'.get t = if i ≤ t ∧ t < i + l.length then l[t - i]? else f.get t
  | [], i, f, κ => ⟨f, rfl, fun t => by rw [if_neg]; simp only [List.length_nil]; omega⟩
  | v :: l, i, f, κ => by
    obtain ⟨f', h1, h2⟩ := framK_eq l (i + 1) (.cons i v f) κ
    refine ⟨f', h1, fun t => ?_⟩
    rw [h2 t]
    simp only [Fr.get, List.length_cons]
    by_cases e : i = t
    · subst e
      rw [if_neg (by omega), if_pos rfl, if_pos (by omega)]
      simp
    · by_cases hlt : i + 1 ≤ t ∧ t < i + 1 + l.length
      · rw [if_pos hlt, if_pos (by omega), show t - i = (t - (i + 1)) + 1 by omega]
        simp
      · rw [if_neg hlt, if_neg e, if_neg (by omega)]
theorem leaveK_inv {e : O} {k : K4} (ho : o ≠ .fail) (hs : leaveK e k = o) : e ≠ .fail ∧ k e.F e.G e.H e.N = o ∧ (e.exit = .normal ∨ e.exit = .ret) := by
  cases e with
  | nrm f g h n => exact ⟨by simp, hs, .inl rfl⟩
  | ret f g h n => exact ⟨by simp, hs, .inr rfl⟩
  | _ => exact absurd hs.symm ho

/-- a function, entered -/
theorem enter_spec {masks : Nat → Nat} {fi : Nat} {fn : Func} {c : Code} {args : List AV} {κ : KC} (hc : CFok cf) (hy : YFok yf) (hf : P.funcs[fi]? = some fn) (hb : fn.body = some c) (hfit : fits false fn.ntmps c = true) (hname : (fn.name == "runtime.NumGoroutine") = false)
    (ho : o ≠ .fail) (hs : enterK masks cf yf fi args h nx κ (c, fn.results.toList) = o) : ∃ v h' nx', κ v h' nx' = o ∧ CallSpec fi args h nx v h' nx' := by
  have hs' : framK args 0 .nil (fun f => leaveK (codeK c cf yf (masks fi) f .nil h nx) (fromRes (masks fi) fn.results.toList κ)) = o := hs
  obtain ⟨f', h1, h2⟩ := framK_eq args 0 .nil (fun f => leaveK (codeK c cf yf (masks fi) f .nil h nx) (fromRes (masks fi) fn.results.toList κ))
  rw [h1] at hs'
  generalize he : codeK c cf yf (masks fi) f' .nil h nx = e at hs'
  obtain ⟨h3, h4, h5⟩ := leaveK_inv ho hs'
  have h6 : resK (masks fi) e.H e.F e.G fn.results.toList (oneRes (fun v => κ v e.H e.N)) = o := h4
  obtain ⟨l, h7, h8⟩ := resK_inv ho h6
  rw [oneRes_eq] at h8
  have hsp := code_spec hc hy c (r := false) h3 he
  refine ⟨_, _, _, h8, ⟨fn, hf, by rw [hb]; rfl, hname⟩, hsp.1, fun B w0 ι w vs S hhi hv => ?_⟩
  refine callsIn_of_wp_marks hf hb trivial ?_
  have hlen := hv.length
  refine hsp.2 Fence.wide (.inl rfl) (fun _ => rfl) B w0 ι w _ _ S hhi ?_ (fits_mono (by simp; omega) c hfit) trivial fun ι' a' w' k1 k2 k3 k4 k5 => ?_
  · intro t v ht
    unfold look at ht
    split at ht
    · rw [h2 t] at ht
      split at ht
      · rename_i hlt
        simp only [Nat.sub_zero] at ht
        obtain ⟨x, hx, hvx⟩ := hv.get ht
        refine ⟨x, ?_, hvx⟩
        have hlt' : t < vs.size := by simp at hlen; omega
        rw [Array.getElem?_append_left hlt']
        simpa using hx
      · cases ht
    · cases ht
  · have hfin : LeavesInM Fence.wide 0 P fn a'.tmps (fun e w' => ∃ x ι', e = .returned x ∧ Mp.up _ ι ι' ∧ VR ι' _ x ∧ Sim B w0 ι' _ _ w') a'.defers .returning w' :=
      leave_marks a'.defers w' k4 k5 fun w2 S2 => by
        obtain ⟨x, hx, hvx⟩ := results_run (fn := fn) S2 k2 h7
        exact ⟨x, hx, x, ι', rfl, k1, hvx, S2⟩
    rcases h5 with h5 | h5 <;> rw [h5] <;> exact hfin

/-- what each function's text is asked -/
def textOK (fn : Func) : Bool := match fn.body with
  | some c => fits false fn.ntmps c && !(fn.name == "runtime.NumGoroutine")
  | none => true
theorem texts_ok : (P.funcs.toList.all textOK) = true := by decide +kernel
theorem fnBody_inv {fi : Nat} {c : Code} {rs : List ResultVar} (hb : fnBody P fi = some (c, rs)) : ∃ fn, P.funcs[fi]? = some fn ∧ fn.body = some c ∧ rs = fn.results.toList ∧ fits false fn.ntmps c = true ∧ (fn.name == "runtime.NumGoroutine") = false := by
  unfold fnBody at hb
  cases hf : P.funcs[fi]? with
  | none => rw [hf] at hb; cases hb
  | some fn =>
    rw [hf] at hb
    cases hc : fn.body with
    | none => simp only [hc] at hb; cases hb
    | some c' =>
      simp only [hc] at hb
      cases hb
      have hmem : fn ∈ P.funcs.toList := by
        rw [Array.mem_toList_iff]
        exact Array.mem_of_getElem? hf
      have := List.all_eq_true.1 texts_ok fn hmem
      simp only [textOK, hc, Bool.and_eq_true, Bool.not_eq_true'] at this
      exact ⟨fn, rfl, hc, rfl, this.1, this.2⟩

/-- the reckoner's calls, if what it looks up and the one that it knows by heart are right -/
theorem evK_ok {masks : Nat → Nat} {ins : Nat} {memo : Nat → List Ent} (hins : ∀ args h nx q, insertA h nx args = some q → CallSpec ins args h nx q.1 (upsH h q.2.1) q.2.2)
    (hmemo : ∀ fi e, e ∈ memo fi → ∀ args h nx q, tryEnt e args h nx = some q → CallSpec fi args h nx q.1 (upsH h q.2.1) q.2.2) : ∀ d, CFok (evK masks ins memo d).1 ∧ YFok (evK masks ins memo d).2
  | 0 => ⟨fun _ _ _ _ _ _ ho hs => absurd hs.symm ho, fun _ _ _ _ _ _ ho hs => absurd hs.symm ho⟩
  | d + 1 => by
    obtain ⟨hc, hy⟩ := evK_ok hins hmemo d
    refine ⟨?_, yield_ok fun ho hs => code_spec hc hy _ ho hs⟩
    intro fi args h nx κ o ho hs
    have hs' : iteK (Nat.beq fi ins) (insK args h nx κ) (memoK (optK (fnBody P fi) (enterK masks (evK masks ins memo d).1 (evK masks ins memo d).2 fi args h nx κ)) args h nx κ (memo fi)) = o := hs
    have h1 := iteK_inv hs'
    have slow : optK (fnBody P fi) (enterK masks (evK masks ins memo d).1 (evK masks ins memo d).2 fi args h nx κ) = o → ∃ v h' nx', κ v h' nx' = o ∧ CallSpec fi args h nx v h' nx' := fun h2 => by
      obtain ⟨⟨c, rs⟩, h3, h4⟩ := optK_inv ho h2
      obtain ⟨fn, g1, g2, rfl, g3, g4⟩ := fnBody_inv h3
      exact enter_spec hc hy g1 g2 g3 g4 ho h4
    cases hb : Nat.beq fi ins with
    | true =>
      rw [hb] at h1
      have e := Nat.eq_of_beq_eq_true hb
      subst e
      obtain ⟨q, h2, h3⟩ := optK_inv (x := insertA h nx args) ho h1
      rw [upsK_eq] at h3
      exact ⟨_, _, _, h3, hins args h nx q h2⟩
    | false =>
      rw [hb] at h1
      have aux : ∀ l : List Ent, (∀ e ∈ l, e ∈ memo fi) → memoK (optK (fnBody P fi) (enterK masks (evK masks ins memo d).1 (evK masks ins memo d).2 fi args h nx κ)) args h nx κ l = o → ∃ v h' nx', κ v h' nx' = o ∧ CallSpec fi args h nx v h' nx' := by
        intro l
        induction l with
        | nil => intro _ h2; exact slow h2
        | cons e l ih =>
          intro hl h2
          have h2' : Option.rec (motive := fun _ => O) (memoK (optK (fnBody P fi) (enterK masks (evK masks ins memo d).1 (evK masks ins memo d).2 fi args h nx κ)) args h nx κ l) (fun q => upsK q.2.1 h (fun h => κ q.1 h q.2.2)) (tryEnt e args h nx) = o := h2
          cases ht : tryEnt e args h nx with
          | none => rw [ht] at h2'; exact ih (fun e he => hl e (by simp [he])) h2'
          | some q =>
            rw [ht] at h2'
            have h3 : upsK q.2.1 h (fun h => κ q.1 h q.2.2) = o := h2'
            rw [upsK_eq] at h3
            exact ⟨_, _, _, h3, hmemo fi e (hl e (by simp)) args h nx q ht⟩
      exact aux (memo fi) (fun _ h => h) h1
end Go.Ev.F
