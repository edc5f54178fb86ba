/- Proved here: ranges over functions, and their rounds. -/
import Derived.Test.YtnbhgeehlcjmdaaGreatV29
namespace Go.Ev.F
open Go Go.Ev
variable {f g : Fr} {h : HT} {nx m : Nat} {o : O} {cf yf : CF}

/-- a block that nobody looks at -/
theorem Sim.grow {B : Bd} {w0 w : World} {ι : Mp} {h : HT} {nx : Nat} (S : Sim B w0 ι h nx w) (x : Go.Obj) : Sim B w0 ι h nx (w.alloc x) := by
  have hk : ∀ k, k < w.heap.size → (w.alloc x).heap[k]? = w.heap[k]? := fun k hk => by
    show (w.heap.push x)[k]? = _
    simp [Array.getElem?_push]; omega
  refine ⟨fun b o p hb hp => ?_, S.dom, S.inj, S.fresh, S.mine, fun k hk' => ?_, S.newB, ?_, S.os, S.tape, S.output⟩
  · rw [hk _ (S.objs b o p hb hp).lt]; exact S.objs b o p hb hp
  · rcases Nat.lt_or_ge k w.heap.size with h | h
    · rw [hk k h]; exact S.old k hk'
    · exact absurd (S.newB k (Nat.le_trans S.size h)) hk'
  · have : (w.alloc x).heap.size = w.heap.size + 1 := by show (w.heap.push x).size = _; simp
    rw [this]; have := S.size; omega
/-- a block whose object is forgotten -/
theorem Sim.drop {B : Bd} {w0 w : World} {ι : Mp} {h : HT} {nx b : Nat} {o : Obj} {p : Place} (S : Sim B w0 ι h nx w) (hb : hget h b = some o) (hp : ι b = some p) (x : Go.Obj) :
    Sim B w0 ι (hset h b none) nx (w.putObj p.blk x) := by
  have old : ∀ c y, hget (hset h b none) c = some y → c ≠ b ∧ hget h c = some y := fun c y hc => by
    rcases hget_hset hc with ⟨_, e⟩ | ⟨e1, e2⟩
    · cases e
    · exact ⟨e1, e2⟩
  have hlt := (S.objs b o p hb hp).lt
  refine ⟨fun c y q hc hq => ?_, fun c y hc => S.dom c y (old c y hc).2, fun c d y z q r hc hd hq hr e => S.inj c d y z q r (old c y hc).2 (old d z hd).2 hq hr e, S.fresh, fun c y q hc hq => S.mine c y q (old c y hc).2 hq, fun k hk => ?_, S.newB, by simp only [World.putObj_size]; exact S.size, S.os, S.tape, S.output⟩
  · rw [World.putObj_heap_other (fun e => (old c y hc).1 (S.inj c b y o q p (old c y hc).2 hb hq hp e))]
    exact S.objs c y q (old c y hc).2 hq
  · rw [World.putObj_heap_other (fun e => hk (by rw [e]; exact S.mine b o p hb hp))]
    exact S.old k hk
/-- a loop's record is another one -/
theorem Sim.setLoop {B : Bd} {w0 w : World} {ι : Mp} {h : HT} {nx b : Nat} {r r' : LoopO} {p : Place} {L : Loop} (S : Sim B w0 ι h nx w) (hb : hget h b = some (.loop r)) (hp : ι b = some p)
    (hr : ObjR ι p (some (.loop L)) (.loop r')) : Sim B w0 ι (hset h b (some (.loop r'))) nx (w.putObj p.blk (.loop L)) :=
  S.upd hb hp World.putObj_size (fun k hk => World.putObj_heap_other hk) (by
    have hlt := (S.objs b _ p hb hp).lt
    have : (w.putObj p.blk (.loop L)).heap[p.blk]? = some (.loop L) := by simp [World.putObj, hlt]
    rw [this]; exact hr) rfl rfl rfl

theorem endRange_inv {r : LoopO} {n : Nat} (ho : o ≠ .fail) (hs : endRange f g n h r = o) :
    r.state ≠ .busy ∧ ((r.pending = none ∧ o = .nrm f g h n) ∨ (r.pending = some .ret ∧ o = .ret f g h n) ∨ ∃ id, r.pending = some (.exit id) ∧ o = .ex id f g h n) := by
  unfold endRange at hs
  cases hst : r.state with
  | busy => rw [hst] at hs; exact absurd hs.symm ho
  | _ =>
    refine ⟨by simp, ?_⟩
    rw [hst] at hs
    cases hp : r.pending with
    | none => rw [hp] at hs; exact .inl ⟨rfl, hs.symm⟩
    | some c =>
      rw [hp] at hs
      cases c with
      | ret => exact .inr (.inl ⟨rfl, hs.symm⟩)
      | exit id => exact .inr (.inr ⟨id, rfl, hs.symm⟩)
      | _ => exact absurd hs.symm ho
theorem objLoop_inv {x : Obj} {κ : LoopO → O} (ho : o ≠ .fail) (hs : objLoop x κ = o) : ∃ r, x = .loop r ∧ κ r = o := by
  cases x with
  | loop r => exact ⟨r, rfl, hs⟩
  | _ => exact absurd hs.symm ho

theorem code_range {r : Bool} {q : Operand} {ps : Array Tmp} {asg body : Code} (hc : CFok cf) (ho : o ≠ .fail) (hs : evalK q m f g (rangeK ps asg body cf m f g h nx) = o) : CodeSpec r (.rangeFunc q ps asg body) m f g h nx o := by
  obtain ⟨av, h1, h2⟩ := evalK_inv ho hs
  unfold rangeK at h2
  rw [hsetK_eq] at h2
  cases av with
  | fn gi first caps =>
    generalize hH : hset h nx (some (.loop { state := .ready, pending := none, fr := f, params := ps, assign := asg, body := body, mask := m })) = H at h2
    have h3 : appK [.yld nx] caps (fun l => appK first l (fun l => cf gi l H (Nat.succ nx) (fun _ h nx' => hgetK h nx (fun o => objLoop o (fun r => hsetK h nx none (fun h => endRange f g nx' h r)))))) = o := h2
    rw [appK_eq, appK_eq] at h3
    obtain ⟨v, h', nx', hk, ⟨fn, hf1, hf2, hf3⟩, hmono, hspec⟩ := hc gi _ H (Nat.succ nx) _ o ho h3
    obtain ⟨x, hx1, hx2⟩ := hgetK_inv ho hk
    obtain ⟨lr, rfl, hx3⟩ := objLoop_inv ho hx2
    rw [hsetK_eq] at hx3
    obtain ⟨hbusy, hend⟩ := endRange_inv ho hx3
    have hoF : o.F = f ∧ o.G = g ∧ o.H = hset h' nx none ∧ o.N = nx' := by
      rcases hend with ⟨_, rfl⟩ | ⟨_, rfl⟩ | ⟨id, _, rfl⟩ <;> exact ⟨rfl, rfl, rfl, rfl⟩
    obtain ⟨o1, o2, o3, o4⟩ := hoF
    have hmono' : nx + 1 ≤ nx' := hmono
    refine ⟨by rw [o4]; omega, fun F hF hr B w0 ι w a Q S hhi hf hfit hm hQ => ?_⟩
    simp only [fits, Bool.and_eq_true, Bool.not_eq_true'] at hfit
    obtain ⟨⟨⟨e0, e1⟩, e2⟩, e3⟩ := hfit
    have hFw := hr e0
    subst hFw
    rw [o4] at hhi
    refine wpIn_rangeFunc fun fnid _ => ?_
    generalize hR : ({ state := .ready, pending := none, fn := fnid, tmps := a.tmps, params := ps, assign := asg, body := body, defers := w.heap.size } : Loop) = R
    generalize hW0 : w.alloc (.deferred (some [])) = W0
    generalize hW1 : W0.alloc (.loop R) = W1
    have hsz0 : W0.heap.size = w.heap.size + 1 := by rw [← hW0]; show (w.heap.push _).size = _; simp
    have hsz1 : W1.heap.size = w.heap.size + 2 := by rw [← hW1]; show (W0.heap.push _).size = _; simp [hsz0]
    have S1 : Sim B w0 ι h nx W0 := by rw [← hW0]; exact Sim.grow S _
    have hid : ι nx = none := S.fresh nx (Nat.le_refl _) (by omega)
    have hle : ι.le (ι.put nx ⟨W0.heap.size, 0, 0⟩) := Mp.put_le hid
    have hnew : W1.heap[W0.heap.size]? = some (.loop R) := by rw [← hW1]; exact World.alloc_heap_new W0 _
    have S2 : Sim B w0 (ι.put nx ⟨W0.heap.size, 0, 0⟩) H (nx + 1) W1 := by
      rw [← hH]
      refine S1.new (by omega) (by rw [hsz1, hsz0]; omega) (fun k hk => by rw [← hW1]; show (W0.heap.push _)[k]? = _; simp [Array.getElem?_push]; omega) ?_ (by rw [← hW1]; rfl) (by rw [← hW1]; rfl) (by rw [← hW1]; rfl)
      rw [hnew]
      refine ⟨R, rfl, by rw [← hR], by rw [← hR], by rw [← hR], by rw [← hR], by rw [← hR], ?_, by rw [← hR]; exact e2, by rw [← hR]; exact e3, by rw [← hR]; exact e1⟩
      rw [← hR]
      intro t u ht
      simp only at ht
      split at ht
      · rename_i hb
        obtain ⟨y, hy, hv⟩ := hf t u (by unfold look; rw [if_pos hb]; exact ht)
        exact ⟨y, hy, hv.mono hle⟩
      · cases ht
    have hdef : W1.heap[w.heap.size]? = some (.deferred (some [])) := by
      rw [← hW1]
      show (W0.heap.push _)[w.heap.size]? = _
      rw [Array.getElem?_push, if_neg (by omega), ← hW0]
      exact World.alloc_heap_new w _
    have hm1 : Marks B.has ({ target := .collected w.heap.size, args := #[] } :: a.defers) W1 := by
      have hmk : Marks B.has a.defers W1 := hm.keep fun k hk => by
        have hlt : k < w.heap.size := by
          rcases Nat.lt_or_ge k w.heap.size with h | h
          · exact h
          · rw [Array.getElem?_eq_none h] at hk; cases hk
        rw [← hW1, ← hW0]
        show ((w.heap.push _).push _)[k]? = _
        rw [Array.getElem?_push, if_neg (by simp; omega), Array.getElem?_push, if_neg (by omega)]
        exact hk
      refine ⟨⟨w.heap.size, rfl, S.newB _ S.size, hdef, ?_⟩, hmk⟩
      have aux : ∀ ds : List Deferred, Marks B.has ds w → ∀ d' ∈ ds, d'.target ≠ .collected w.heap.size := by
        intro ds
        induction ds with
        | nil => intro _ d' hd'; cases hd'
        | cons d ds ih =>
          rintro ⟨⟨k, g1, _, g2, _⟩, g4⟩ d' hd'
          rcases List.mem_cons.1 hd' with rfl | hd'
          · rw [g1]
            intro e
            cases e
            simp at g2
          · exact ih g4 d' hd'
      exact aux a.defers hm
    have hvq := FR.env hf q _ h1
    generalize hx : a.eval q = xq at hvq
    cases hvq with
    | fn _ hA hC =>
      rename_i A C
      have hvs : VRs (ι.put nx ⟨W0.heap.size, 0, 0⟩) (first ++ ([.yld nx] ++ caps)) ((A ++ #[Value.func (.yield W0.heap.size) #[] #[]]) ++ C).toList := by
        rw [Array.toList_append, Array.toList_append, List.append_assoc]
        exact (VRs.mono hle hA).append ((VRs.cons (.yld (p := ⟨W0.heap.size, 0, 0⟩) (Mp.put_same ..)) .nil).append (VRs.mono hle hC))
      have S3 := S2.rebase (hi := nx') fun b g1 g2 => S2.fresh b g1 (by omega)
      have hcall := hspec _ W1 _ W1 _ S3 (Nat.le_refl _) hvs
      refine ⟨W0.heap.size, [{ target := .collected w.heap.size, args := #[] }], W1, { target := .fn (.func gi) C, args := A ++ #[Value.func (.yield W0.heap.size) #[] #[]] }, W1, gi, (A ++ #[Value.func (.yield W0.heap.size) #[] #[]]) ++ C, W1, ?_, ?_, fun _ _ => trivial, ?_, (fun e => by cases e), ?_⟩
      · have := run_enterLoop_outer (P := P) (w := w) fnid a.tmps ps asg body
        rw [hR, hW0, hW1] at this
        rw [hsz0]; exact this
      · have hy : ∀ v, a.eval (.const v) = v := fun _ => rfl
        simp only [resolve, hx, hy, Deferred.ofValue, Sem.run_pure, List.map_toArray, List.map_cons, List.map_nil]
      · simp only [invoke, callFunc, Sem.run_bind, run_program, Result.andThen_ok, hf1, hf2, hf3, Bool.false_eq_true, if_false, Sem.run_pure]
      · refine CallsIn.mono hcall ?_
        rintro e w3 ⟨y, ι3, rfl, k1, k2, S4⟩
        have hp3 : ι3 nx = some ⟨W0.heap.size, 0, 0⟩ := k1.1 _ _ (Mp.put_same ..)
        obtain ⟨L, l1, l2, l3, l4⟩ := S4.objs nx _ _ hx1 hp3
        have l1' : w3.heap[W0.heap.size]? = some (.loop L) := l1
        refine ⟨L.pending, _, run_endLoop l1' (by rw [l2]; exact hbusy), ?_⟩
        have S5 : Sim (Loc H (ι.put nx ⟨W0.heap.size, 0, 0⟩) W1 nx') W1 ι3 (hset h' nx none) nx' (w3.putObj W0.heap.size (.loop { L with state := .exhausted })) := Sim.drop S4 hx1 hp3 _
        have hup : Mp.up nx' ι ι3 := (Mp.up.put hid (Nat.lt_of_succ_le hmono')).trans k1 (Nat.le_refl _)
        have S6 : Sim B w0 ι3 (hset h' nx none) nx' (w3.putObj W0.heap.size (.loop { L with state := .exhausted })) := S2.back S5 fun b g1 g2 => (hup.2 b g1).trans (S.fresh b (by omega) g2)
        have hmm := Loc.marks S2 S5 hm1
        have hF' : FR ι3 (look m f g) a.tmps := hf.mono hup.1
        have hfin := hQ ι3 { a with defers := [{ target := .collected w.heap.size, args := #[] }] ++ a.defers } _ (by rw [o4]; exact hup) (by rw [o1, o2]; exact hF') rfl hmm (by rw [o3, o4]; exact S6)
        rw [l3] at hfin ⊢
        rcases hend with ⟨hp, rfl⟩ | ⟨hp, rfl⟩ | ⟨id, hp, rfl⟩
        · rw [hp] at hfin ⊢; exact hfin
        · rw [hp] at hfin ⊢; exact wpIn_ret hfin
        · rw [hp] at hfin ⊢; exact wpIn_exit hfin
  | _ => exact absurd h2.symm ho

/-! rounds -/
theorem setPars_inv {κ : Fr → Fr → O} (ho : o ≠ .fail) : ∀ {ps : List Tmp} {vs : List AV} {f g : Fr}, setPars m κ ps vs f g = o →
    ∃ f' g', κ f' g' = o ∧ ps.length = vs.length ∧ ∀ (ι : Mp) (tmps : Array Value) (xs : List Value), FR ι (look m f g) tmps → VRs ι vs xs → (∀ t ∈ ps, t < tmps.size) →
      FR ι (look m f' g') ((ps.zip xs).foldl (fun (tmps : Array Value) (p : Tmp × Value) => tmps.setIfInBounds p.1 p.2) tmps)
  | [], [], f, g, hs => ⟨f, g, hs, rfl, fun _ _ _ hf _ _ => by simpa using hf⟩
  | [], _ :: _, f, g, hs => absurd hs.symm ho
  | _ :: _, [], f, g, hs => absurd hs.symm ho
  | t :: ps, v :: vs, f, g, hs => by
    have hs' : Nat.rec (motive := fun _ => O) (setPars m κ ps vs f (.cons t v g)) (fun _ _ => setPars m κ ps vs (.cons t v f) g) (Nat.land (Nat.shiftRight m t) 1) = o := hs
    have hput : setPars m κ ps vs (putF (some t) v m f g).1 (putF (some t) v m f g).2 = o := by
      unfold putF
      rcases bit_cases m t with ⟨e1, e2⟩ | ⟨e1, e2⟩
      · rw [e1] at hs'; simp only [e2, Bool.false_eq_true, if_false]; exact hs'
      · rw [e1] at hs'; simp only [e2, if_true]; exact hs'
    obtain ⟨f', g', h1, h2, h3⟩ := setPars_inv ho hput
    refine ⟨f', g', h1, by simp [h2], fun ι tmps xs hf hv hlt => ?_⟩
    cases hv with
    | cons hv ht =>
      rename_i x xs
      simp only [List.zip_cons_cons, List.foldl_cons]
      refine h3 ι _ xs ?_ ht (fun t' ht' => by simpa using hlt t' (by simp [ht']))
      exact FR.put (a := { tmps := tmps, defers := [] }) (d := some t) hf (Mp.le.refl _) hv (fun t' e => by cases e; exact hlt t (by simp))
theorem onlyK_inv {e : O} {k : K4} (ho : o ≠ .fail) (hs : onlyK e k = o) : ∃ f g h n, e = .nrm f g h n ∧ k f g h n = o := by
  cases e with
  | nrm f g h n => exact ⟨f, g, h, n, rfl, hs⟩
  | _ => exact absurd hs.symm ho
theorem foldl_size : ∀ (l : List (Tmp × Value)) (tmps : Array Value), (l.foldl (fun (tmps : Array Value) (p : Tmp × Value) => tmps.setIfInBounds p.1 p.2) tmps).size = tmps.size
  | [], _ => rfl
  | p :: l, tmps => by simp only [List.foldl_cons]; rw [foldl_size l]; simp
/-- the way out of a round -/
def O.jump : O → Option Code | .ex id .. => some (.exit id) | .ret .. => some .ret | _ => none
theorem yield_ok (hcode : ∀ {c : Code} {m : Nat} {f g : Fr} {h : HT} {nx : Nat} {o : O}, o ≠ .fail → codeK c cf yf m f g h nx = o → CodeSpec true c m f g h nx o) : YFok (yieldK cf yf) := by
  intro l args h nx κ o ho hs
  unfold yieldK at hs
  obtain ⟨x, h1, h2⟩ := hgetK_inv ho hs
  obtain ⟨r, rfl, h3⟩ := objLoop_inv ho h2
  obtain ⟨f1, g1, h4, hlen, hpar⟩ := setPars_inv ho h3
  obtain ⟨f2, g2, hh2, n2, h5, h6⟩ := onlyK_inv ho h4
  obtain ⟨x2, h7, h8⟩ := hgetK_inv ho h6
  obtain ⟨r2, rfl, h9⟩ := objLoop_inv ho h8
  unfold beginRound at h9
  cases hst : r2.state with
  | ready =>
    rw [hst] at h9
    simp only [hsetK_eq] at h9
    generalize he : codeK r.body cf yf r.mask f2 g2 (hset hh2 l (some (.loop { r2 with state := .busy }))) n2 = e at h9
    have h10 : e ≠ .fail ∧ endRound l κ e.jump e.H e.N = o := by
      cases e with
      | fail => exact absurd h9.symm ho
      | _ => exact ⟨by simp, h9⟩
    obtain ⟨hef, h11⟩ := h10
    unfold endRound at h11
    obtain ⟨x4, h12, h13⟩ := hgetK_inv ho h11
    obtain ⟨r4, rfl, h14⟩ := objLoop_inv ho h13
    rw [hsetK_eq] at h14
    have sa := hcode (by simp) h5
    have sb := hcode hef he
    refine ⟨_, _, _, h14, Nat.le_trans sa.1 sb.1, fun B w0 ι w vs p S hhi hv hp => ?_⟩
    obtain ⟨L, hL, l1, l2, l3, l4, l5, l6, l7, l8, l9⟩ := S.objs l _ p h1 hp
    have hszv : vs.size = L.params.size := by
      have := hv.length
      rw [l3]
      simp at this hlen
      omega
    have hlt : ∀ t ∈ r.params.toList, t < L.tmps.size := fun t ht => by simpa using List.all_eq_true.1 l9 t ht
    have hfold : (L.params.zip vs).foldl (fun tmps (t, a) => tmps.setIfInBounds t a) L.tmps = (r.params.toList.zip vs.toList).foldl (fun (tmps : Array Value) (p : Tmp × Value) => tmps.setIfInBounds p.1 p.2) L.tmps := by
      rw [← Array.foldl_toList, Array.toList_zip, l3]
    refine ⟨L.fn, _, L.assign, L.body, w, run_yield hL hszv, ?_⟩
    rw [hfold, l4, l5]
    refine roundIn_of_wpIn trivial ?_
    have hsz := foldl_size (r.params.toList.zip vs.toList) L.tmps
    refine sa.2 (Fence.wide.inRound p.blk) (.inr ⟨_, rfl⟩) (fun e => by cases e) B w0 ι w _ _ S (Nat.le_trans sb.1 hhi) (hpar ι L.tmps vs.toList l6 hv hlt) (by rw [hsz]; exact l7) trivial fun ι2 a1 w1 k1 k2 k3 km S2 => ?_
    have hp2 := k1.1 _ _ hp
    obtain ⟨L2, hL2, m1, m2, m3, m4, m5, m6, m7, m8, m9⟩ := S2.objs l _ p h7 hp2
    refine ⟨_, run_beginRound hL2 (by rw [m1]; exact hst), ?_⟩
    have S3 := Sim.setLoop (r' := { r2 with state := .busy }) (L := { L2 with state := .busy }) S2 h7 hp2 ⟨_, rfl, rfl, m2, m3, m4, m5, m6, m7, m8, m9⟩
    refine sb.2 (Fence.wide.inRound p.blk) (.inr ⟨_, rfl⟩) (fun e => by cases e) B w0 ι2 _ a1 _ S3 hhi k2 (by rw [k3, hsz]; exact l8) (km.keep fun k hk => by
      rw [World.putObj_heap_other (fun e => by rw [e, hL2] at hk; cases hk)]
      exact hk) fun ι3 a2 w2 q1 _ _ _ S4 => ?_
    have hp3 := q1.1 _ _ hp2
    obtain ⟨L4, hL4, t1, t2, t3, t4, t5, t6, t7, t8, t9⟩ := S4.objs l _ p h12 hp3
    have fin : ∃ v w', (Instr.endRound p.blk e.jump).run P w2 = .ok v w' ∧ ∃ x ι', Ending.returned v = .returned x ∧ Mp.up e.N ι ι' ∧ VR ι' (.bool e.jump.isNone) x ∧ Sim B w0 ι' (hset e.H l (some (.loop { r4 with state := (if e.jump.isNone then .ready else .done), pending := e.jump }))) e.N w' :=
      ⟨_, _, run_endRound e.jump hL4, _, ι3, rfl, k1.trans q1 sb.1, .bool _, Sim.setLoop S4 h12 hp3 ⟨_, rfl, rfl, rfl, t3, t4, t5, t6, t7, t8, t9⟩⟩
    cases e with
    | fail => exact absurd rfl hef
    | _ => exact fin
  | _ => rw [hst] at h9; exact absurd h9.symm ho

/-- all code -/
theorem code_spec (hc : CFok cf) (hy : YFok yf) : ∀ (c : Code) {r : Bool} {m : Nat} {f g : Fr} {h : HT} {nx : Nat} {o : O}, o ≠ .fail → codeK c cf yf m f g h nx = o → CodeSpec r c m f g h nx o
  | .skip, _, _, _, _, _, _, _, _, hs => by cases hs; exact code_skip
  | .region id ops d, _, _, _, _, _, _, _, ho, hs => code_region hc hy ho hs
  | .seq x y, _, m, f, g, h, nx, _, ho, hs => by
    have hs' : thenK (codeK x cf yf m f g h nx) (codeK y cf yf m) = _ := hs
    rcases thenK_inv ho hs' with ⟨f1, g1, h1, n1, he, hk⟩ | ⟨he, hn⟩
    · exact code_seq (code_spec hc hy x (by simp) he) (.inr ⟨f1, g1, h1, n1, rfl, code_spec hc hy y ho hk⟩)
    · exact code_seq (code_spec hc hy x ho he) (.inl ⟨rfl, by rw [← he]; exact hn⟩)
  | .cond c x y, r, m, f, g, h, nx, o, ho, hs => by
    have hs' : evalK c m f g (fun v => condK v (codeK x cf yf m f g h nx) (codeK y cf yf m f g h nx)) = o := hs
    obtain ⟨v, h1, h2⟩ := evalK_inv ho hs'
    obtain ⟨b, rfl, h3⟩ := condK_inv ho h2
    have hsp : CodeSpec r (if b then x else y) m f g h nx o := by
      cases b
      · exact code_spec hc hy y ho h3
      · exact code_spec hc hy x ho h3
    refine ⟨hsp.1, fun F hF hr B w0 ι w a Q S hhi hf hfit hm hQ => ?_⟩
    simp only [fits, Bool.and_eq_true] at hfit
    have hv := FR.env hf c _ h1
    generalize hx : a.eval c = q at hv
    cases hv
    refine wpIn_cond hx (hsp.2 F hF hr B w0 ι w a Q S hhi hf ?_ hm hQ)
    cases b
    · exact hfit.2
    · exact hfit.1
  | .block id c, r, m, f, g, h, nx, o, ho, hs => by
    have hs' : blockK (codeK c cf yf m f g h nx) id = o := hs
    obtain ⟨e1, e2, e3, e4, e5, e6⟩ := blockK_inv ho hs'
    have hsp := code_spec hc hy c (r := r) e1 rfl
    refine ⟨by rw [e5]; exact hsp.1, fun F hF hr B w0 ι w a Q S hhi hf hfit hm hQ => wpIn_block ?_⟩
    refine hsp.2 F hF hr B w0 ι w a _ S (by rw [← e5]; exact hhi) hf hfit hm fun ι' a' w' k1 k2 k3 k4 k5 => e6 Q a' w' (hQ ι' a' w' (by rw [e5]; exact k1) (by rw [e2, e3]; exact k2) k3 k4 (by rw [e4, e5]; exact k5))
  | .loop c, _, _, _, _, _, _, _, ho, hs => code_loop (fun ho hs => code_spec hc hy c ho hs) ho hs
  | .rangeFunc q ps asg body, _, _, _, _, _, _, _, ho, hs => code_range hc ho hs
  | .exit id, _, m, f, g, h, nx, _, _, hs => by
    cases hs
    exact ⟨Nat.le_refl _, fun _ _ _ _ _ ι _ _ _ S _ hf _ hm hQ => wpIn_exit (hQ ι _ _ (Mp.up.refl _ _) hf rfl hm S)⟩
  | .scope c, _, m, f, g, h, nx, _, ho, hs => by
    have hs' : codeK c cf yf m f g h nx = _ := hs
    refine ⟨(code_spec hc hy c (r := false) ho hs').1, fun F _ _ B w0 ι w a Q _ _ _ hfit _ _ => ?_⟩
    simp [fits] at hfit
  | .label l, _, m, f, g, h, nx, _, _, hs => by
    cases hs
    exact ⟨Nat.le_refl _, fun _ _ _ _ _ ι _ _ _ S _ hf _ hm hQ => wpIn_label (hQ ι _ _ (Mp.up.refl _ _) hf rfl hm S)⟩
  | .goto l, _, _, _, _, _, _, _, ho, hs => absurd hs.symm ho
  | .ret, _, m, f, g, h, nx, _, _, hs => by
    cases hs
    exact ⟨Nat.le_refl _, fun _ _ _ _ _ ι _ _ _ S _ hf _ hm hQ => wpIn_ret (hQ ι _ _ (Mp.up.refl _ _) hf rfl hm S)⟩
  | .refuse y, _, _, _, _, _, _, _, ho, hs => absurd hs.symm ho
end Go.Ev.F
