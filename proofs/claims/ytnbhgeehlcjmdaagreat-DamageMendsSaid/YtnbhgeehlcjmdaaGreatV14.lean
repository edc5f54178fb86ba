/- Proved here: what the reckoner says of reads of maps and of writes to them is what the model does. -/
import Derived.Test.YtnbhgeehlcjmdaaGreatV13
namespace Go.Ev
open Go
variable {P : Program} {w w0 : World} {ι : Mp} {B : Bd} {h : HT} {nx : Nat} {ρ : Env} {ρc : Operand → Value} {o : Oper} {r : AV × Ups × Nat}

theorem run_setMap {k : Nat} {es : Array MapEntry} {cl : Nat} (x : Go.Obj) (hw : w.heap[k]? = some (.map es cl)) : (setObj k x).run P w = .ok () { w with heap := w.heap.setIfInBounds k x } := by
  simp [setObj, Sem.run, hw]

theorem ok_lookup (S : Sim B w0 ι h nx w) (E : ER1 ι ρ ρc) {t : TypeId} {x ix : Operand} {ok : Bool} (ho : o.op = .lookup t x ix ok) (hr : oLookup P ρ t x ix ok h nx = some r) : OpOK P ρc o B w0 ι h w r := by
  unfold oLookup at hr
  split at hr
  · rename_i xv kv hx hk
    split at hr
    · rename_i v hv
      simp at hr; subst hr
      replace hx := E x _ hx
      replace hk := E ix _ hk
      unfold lookupA at hv
      split at hv
      · rename_i key elem hd
        split at hv
        · rename_i hko
          have hkv := keyOK_spec hko
          split at hv
          · rename_i z hz
            obtain ⟨zv, hzr, hzv⟩ := run_zero' (P := P) hz
            have main : ∀ (es : List (AV × AV × Nat)) (m : Array MapEntry), ER ι es m.toList →
                (∀ q, mapFind kv es = some q → (match q with | some (u, _) => v = (if ok then .tup [u, .bool true] else u) | none => v = (if ok then .tup [z, .bool false] else z)) →
                  ∃ j, (Instr.findKey key (ρc ix) m.toList).run P w = .ok j w ∧ (j = none → VR ι v (if ok then .tuple #[zv, .bool false] else zv)) ∧ ∀ i y, j = some (i, y) → VR ι v (if ok then .tuple #[y, .bool true] else y)) := by
              intro es m hm q hq hvq
              obtain ⟨j, hj, hrun⟩ := findKey_ok (P := P) (w := w) hkv hk hm hq
              refine ⟨j, hrun, ?_, ?_⟩
              · rintro rfl
                cases q with
                | some => exact absurd hj (by simp [Found])
                | none =>
                  simp only at hvq
                  rw [hvq]
                  cases ok
                  · exact hzv ι
                  · exact .tup (.cons (hzv ι) (.cons (.bool false) .nil))
              · rintro i y rfl
                cases q with
                | none => exact absurd hj (by simp [Found])
                | some p =>
                  obtain ⟨e, h1, h2, h3, h4, h5, h6, h7⟩ := hj
                  subst h3
                  simp only at hvq
                  rw [hvq]
                  cases ok
                  · exact h4
                  · exact .tup (.cons h4 (.cons (.bool true) .nil))
            cases xv <;> simp only at hv <;> try (simp at hv; done)
            · generalize hxv : ρc x = xc at hx
              cases hx
              simp at hv
              obtain ⟨j, g1, g2, g3⟩ := main [] #[] .nil none rfl (by rw [← hv])
              have hck := run_checkKey (P := P) (w := w) (Array.isEmpty (#[] : Array MapEntry)) 9999 (by omega) hkv hk
              cases j with
              | none =>
                refine OpOK.same S (g2 rfl) ?_
                simp only [execOp, ho, hxv, Instr.lookup, Sem.run_bind, run_underlying' hd, Result.andThen_ok, hck, g1, hzr, Sem.run_pure]
              | some p =>
                refine OpOK.same S (g3 p.1 p.2 rfl) ?_
                simp only [execOp, ho, hxv, Instr.lookup, Sem.run_bind, run_underlying' hd, Result.andThen_ok, hck, g1, Sem.run_pure]
            · rename_i b
              generalize hxv : ρc x = xc at hx
              cases hx with
              | mp hp =>
                rename_i p
                cases hb : hget h b with
                | none => simp [hb] at hv
                | some ob =>
                  cases ob with
                  | map es cl =>
                    simp only [hb] at hv
                    obtain ⟨q, hq, es', hes, her⟩ := S.objs1 hb hp
                    rw [hp] at hq; cases hq
                    have hck := run_checkKey (P := P) (w := w) es'.isEmpty 9999 (by omega) hkv hk
                    have fin : ∀ q, mapFind kv es = some q → (match q with | some (u, _) => v = (if ok then .tup [u, .bool true] else u) | none => v = (if ok then .tup [z, .bool false] else z)) → OpOK P ρc o B w0 ι h w (v, [], nx) := by
                      intro q hq hv
                      obtain ⟨j, g1, g2, g3⟩ := main es es' her q hq hv
                      cases j with
                      | none =>
                        refine OpOK.same S (g2 rfl) ?_
                        simp only [execOp, ho, hxv, Instr.lookup, Sem.run_bind, run_underlying' hd, Result.andThen_ok, run_getMap hes, hck, g1, hzr, Sem.run_pure]
                      | some p =>
                        refine OpOK.same S (g3 p.1 p.2 rfl) ?_
                        simp only [execOp, ho, hxv, Instr.lookup, Sem.run_bind, run_underlying' hd, Result.andThen_ok, run_getMap hes, hck, g1, Sem.run_pure]
                    cases hf : mapFind kv es with
                    | none => simp [hf] at hv
                    | some q =>
                      rw [hf] at hv
                      cases q with
                      | none => simp at hv; exact fin none hf (by rw [← hv])
                      | some p => obtain ⟨u, c⟩ := p; simp at hv; exact fin (some (u, c)) hf (by rw [← hv])
                  | cells => simp [hb] at hv
                  | loop => simp [hb] at hv
          · simp at hv
        · simp at hv
      · simp at hv
    · simp at hr
  · simp at hr
theorem ER.length {es : List (AV × AV × Nat)} {m : List MapEntry} (h : ER ι es m) : es.length = m.length := by
  induction h with
  | nil => rfl
  | cons _ _ _ _ ih => simp [ih]
theorem ER.set {es : List (AV × AV × Nat)} {m : List MapEntry} (h : ER ι es m) : ∀ (i : Nat) (k v : AV) (b : Nat) (f : MapEntry → MapEntry), (∀ e, m[i]? = some e → VR ι k (f e).key ∧ VR ι v (f e).val ∧ (f e).born = b) → ER ι (es.set i (k, v, b)) (m.modify i f) := by
  induction h with
  | nil => intro i k v b f _; simp; exact .nil
  | cons hk hv hb ht ih =>
    intro i k v b f hf
    cases i with
    | zero =>
      obtain ⟨h1, h2, h3⟩ := hf _ rfl
      simp only [List.set_cons_zero, List.modify_zero_cons]
      exact .cons h1 h2 h3 ht
    | succ i =>
      simp only [List.set_cons_succ, List.modify_succ_cons]
      exact .cons hk hv hb (ih i k v b f (fun e he => hf e (by simpa using he)))
theorem ER.push {es : List (AV × AV × Nat)} {m : List MapEntry} (h : ER ι es m) {k v : AV} {e : MapEntry} (hk : VR ι k e.key) (hv : VR ι v e.val) : ER ι (es ++ [(k, v, e.born)]) (m ++ [e]) := by
  induction h with
  | nil => exact .cons hk hv rfl .nil
  | cons hk' hv' hb' _ ih => exact .cons hk' hv' hb' ih

/-- a map's content is another one -/
theorem Sim.setMap (S : Sim B w0 ι h nx w) {b : Nat} {p : Place} {es es2 : List (AV × AV × Nat)} {cl cl2 : Nat} {m2 : Array MapEntry} (hb : hget h b = some (.map es cl)) (hp : ι b = some p) (he : ER ι es2 m2.toList) :
    Sim B w0 ι (hset h b (some (.map es2 cl2))) nx { w with heap := w.heap.setIfInBounds p.blk (.map m2 cl2) } := by
  have hlt := (S.objs b _ p hb hp).lt
  exact S.upd hb hp (by simp) (fun k hk => by simp only; rw [Array.getElem?_setIfInBounds, if_neg (fun e => hk e.symm)]) ⟨m2, by simp [hlt], he⟩ rfl rfl rfl

theorem updateA_run (S : Sim B w0 ι h nx w) {t : TypeId} {m k v : AV} {mc kc vc : Value} {u : Ups} (hm : VR ι m mc) (hk : VR ι k kc) (hv : VR ι v vc) (hu : updateA P h t m k v = some u) :
    ∃ w', (Instr.mapUpdate t mc kc vc).run P w = .ok () w' ∧ Sim B w0 ι (upsH h u) nx w' := by
  unfold updateA at hu
  split at hu
  · rename_i key elem b hd
    split at hu
    · rename_i hko
      have hkv := keyOK_spec hko
      split at hu
      · rename_i es cl hb
        cases hm with
        | mp hp =>
          rename_i p
          obtain ⟨q, hq, es', hes, her⟩ := S.objs1 hb hp
          rw [hp] at hq; cases hq
          have hck := run_checkKey (P := P) (w := w) false 9999 (by omega) hkv hk
          split at hu
          · rename_i old hf
            obtain ⟨j, hj, hrun⟩ := findKey_ok (P := P) (w := w) hkv hk her hf
            cases j with
            | none => exact absurd hj (by simp [Found])
            | some jv =>
              obtain ⟨j, y⟩ := jv
              obtain ⟨e, h1, h2, h3, h4, h5, h6, h7⟩ := hj
              rw [h7 v] at hu
              simp at hu; subst hu
              have hke : e.key = kc := VR.keyInj hkv h5 hk
              have h1' : es'[j]? = some e := by simpa using h1
              refine ⟨_, ?_, S.setMap (m2 := es'.modify j fun e => { e with key := kc, val := vc }) hb hp (by
                rw [Array.toList_modify]
                exact her.set j k v _ _ (fun e' he' => by
                  rw [h1] at he'; cases he'
                  exact ⟨hk, hv, h6⟩))⟩
              simp only [Instr.mapUpdate, Sem.run_bind, run_underlying' hd, Result.andThen_ok, run_getMap hes, hck, hrun, h1', Option.map_some, Option.getD_some, hke, run_keyStays hkv hk, run_setMap _ hes]
          · rename_i hf
            simp at hu; subst hu
            obtain ⟨j, hj, hrun⟩ := findKey_ok (P := P) (w := w) hkv hk her hf
            cases j with
            | some => exact absurd hj (by simp [Found])
            | none =>
              refine ⟨_, ?_, S.setMap (cl2 := cl + 1) (m2 := es'.push { key := kc, val := vc, born := cl }) hb hp (by
                rw [Array.toList_push]
                exact her.push (e := { key := kc, val := vc, born := cl }) hk hv)⟩
              simp only [Instr.mapUpdate, Sem.run_bind, run_underlying' hd, Result.andThen_ok, run_getMap hes, hck, hrun, run_setMap _ hes]
          · simp at hu
      · simp at hu
    · simp at hu
  · simp at hu

theorem ok_update (S : Sim B w0 ι h nx w) (E : ER1 ι ρ ρc) {t : TypeId} {m k x : Operand} (ho : o.op = .mapUpdate t m k x ∨ o.op = .insert t m k x) (hr : oUpdate P ρ t m k x h nx = some r) : OpOK P ρc o B w0 ι h w r := by
  unfold oUpdate at hr
  split at hr
  · rename_i mv kv xv hm hk hx
    split at hr
    · rename_i u hu
      simp at hr; subst hr
      obtain ⟨w', h1, h2⟩ := updateA_run (P := P) S (E m _ hm) (E k _ hk) (E x _ hx) hu
      intro _
      refine ⟨ι, undef, w', .inr ⟨?_, rfl⟩, Mp.up.refl _ _, .dead, h2, fun _ e => by
        simp only at e; subst e; exfalso; clear h1 h2; unfold updateA at hu; (repeat' split at hu) <;> simp at hu⟩
      rcases ho with ho | ho <;> simp only [execOp, ho, Sem.run_bind, h1, Result.andThen_ok, Sem.run_pure]
    · simp at hr
  · simp at hr

theorem ok_entry (S : Sim B w0 ι h nx w) (E : ER1 ι ρ ρc) {t : TypeId} {m k : Operand} (ho : o.op = .mapEntry t m k) (hr : oEntry P ρ t m k h nx = some r) : OpOK P ρc o B w0 ι h w r := by
  unfold oEntry at hr
  split at hr
  · rename_i mv kv hm hk
    replace hm := E m _ hm
    replace hk := E k _ hk
    split at hr
    · rename_i v u hu
      simp at hr; subst hr
      unfold entryA at hu
      split at hu
      · rename_i key elem b hd
        split at hu
        · rename_i hko
          have hkv := keyOK_spec hko
          split at hu
          · rename_i es cl z hb hz
            obtain ⟨zv, hzr, hzv⟩ := run_zero' (P := P) hz
            generalize hmc : ρc m = mc at hm
            generalize hkc : ρc k = kc at hk
            cases hm with
            | mp hp =>
              rename_i p
              obtain ⟨q, hq, es', hes, her⟩ := S.objs1 hb hp
              rw [hp] at hq; cases hq
              have hck := run_checkKey (P := P) (w := w) false 9999 (by omega) hkv hk
              split at hu
              · rename_i v0 born hf
                simp at hu; obtain ⟨rfl, rfl⟩ := hu
                obtain ⟨j, hj, hrun⟩ := findKey_ok (P := P) (w := w) hkv hk her hf
                cases j with
                | none => exact absurd hj (by simp [Found])
                | some jv =>
                  obtain ⟨j, y⟩ := jv
                  obtain ⟨e, h1, h2, h3, h4, h5, h6, h7⟩ := hj
                  subst h3
                  have hke : e.key = kc := VR.keyInj hkv h5 hk
                  have h1' : es'[j]? = some e := by simpa using h1
                  have hsame : es'.modify j (fun e => { e with key := kc }) = es' := by
                    apply Array.ext_getElem?
                    intro i
                    rw [Array.getElem?_modify]
                    split
                    · rename_i e2; subst e2
                      rw [h1', Option.map_some, ← hke]
                    · rfl
                  have hlt : p.blk < w.heap.size := (Array.getElem?_eq_some_iff.1 hes).1
                  have hheap : w.heap.setIfInBounds p.blk (.map es' cl) = w.heap := by
                    apply Array.ext_getElem?
                    intro i
                    rw [Array.getElem?_setIfInBounds]
                    split
                    · rename_i e2; subst e2; exact hes.symm
                    · rfl
                  have hvr : VR ι (.tup [v0, .int .i64 (born : Int)]) (.tuple #[e.val, goInt (born : Int)]) := .tup (.cons h4 (.cons (.int _ _) .nil))
                  refine OpOK.same S hvr ?_
                  simp only [execOp, ho, hmc, hkc, Instr.mapEntry, Sem.run_bind, run_underlying' hd, Result.andThen_ok, run_getMap hes, hck, hrun, h1', Option.map_some, Option.getD_some, hke, run_keyStays hkv hk, hsame, run_setMap _ hes, hheap, Sem.run_pure, h6]
              · rename_i hf
                simp at hu; obtain ⟨rfl, rfl⟩ := hu
                obtain ⟨j, hj, hrun⟩ := findKey_ok (P := P) (w := w) hkv hk her hf
                cases j with
                | some => exact absurd hj (by simp [Found])
                | none =>
                  intro _
                  refine ⟨ι, _, _, .inl ?_, Mp.up.refl _ _, .tup (.cons (hzv ι) (.cons (.int .i64 (cl : Int)) .nil)), S.setMap (cl2 := cl + 1) (m2 := es'.push { key := kc, val := zv, born := cl }) hb hp (by
                    rw [Array.toList_push]
                    exact her.push (e := { key := kc, val := zv, born := cl }) hk (hzv ι)), fun _ e => by simp at e⟩
                  simp only [execOp, ho, hmc, hkc, Instr.mapEntry, Sem.run_bind, run_underlying' hd, Result.andThen_ok, run_getMap hes, hck, hrun, hzr, run_setMap _ hes, Sem.run_pure, goInt]
              · simp at hu
          · simp at hu
        · simp at hu
      · simp at hu
    · simp at hr
  · simp at hr

theorem stamp_spec {es : List (AV × AV × Nat)} {m : List MapEntry} (h : ER ι es m) {born : Nat} {v : AV} {es2 : List (AV × AV × Nat)} (hs : mapStamp born v es = some es2) :
    ∃ i, m.findIdx? (fun e => (e.born : Int) == (born : Int)) = some i ∧ ∀ vc, VR ι v vc → ER ι es2 (m.modify i fun e => { e with val := vc }) := by
  induction h generalizing es2 with
  | nil => simp [mapStamp] at hs
  | cons hk hv hb ht ih =>
    rename_i k v' b e l m
    simp only [mapStamp] at hs
    split at hs
    · rename_i he
      simp at hs; subst hs
      refine ⟨0, ?_, fun vc hvc => ?_⟩
      · rw [List.findIdx?_cons, if_pos (by rw [hb, he]; simp)]
      · simp only [List.modify_zero_cons]
        exact .cons hk hvc hb ht
    · rename_i he
      split at hs
      · rename_i l2 hl
        simp at hs; subst hs
        obtain ⟨i, h1, h2⟩ := ih hl
        refine ⟨i + 1, ?_, fun vc hvc => ?_⟩
        · rw [List.findIdx?_cons, if_neg (by rw [hb]; simp; omega), h1]; rfl
        · simp only [List.modify_succ_cons]
          exact .cons hk hv hb (h2 vc hvc)
      · simp at hs

theorem ok_stamp (S : Sim B w0 ι h nx w) (E : ER1 ι ρ ρc) {t : TypeId} {m st x : Operand} (ho : o.op = .entryStore t m st x) (hr : oStamp ρ m st x h nx = some r) : OpOK P ρc o B w0 ι h w r := by
  unfold oStamp at hr
  split at hr
  · rename_i mv sv xv hm hs hx
    replace hm := E m _ hm
    replace hs := E st _ hs
    replace hx := E x _ hx
    split at hr
    · rename_i u hu
      simp at hr; subst hr
      unfold stampA at hu
      split at hu
      · rename_i b born hn
        obtain ⟨k, hk⟩ := hs.nat hn
        split at hu
        · rename_i es cl hb
          split at hu
          · rename_i es2 hst
            simp at hu; subst hu
            generalize hmc : ρc m = mc at hm
            cases hm with
            | mp hp =>
              rename_i p
              obtain ⟨q, hq, es', hes, her⟩ := S.objs1 hb hp
              rw [hp] at hq; cases hq
              obtain ⟨i, h1, h2⟩ := stamp_spec her hst
              have h1' : es'.findIdx? (fun e => (e.born : Int) == (born : Int)) = some i := by
                obtain ⟨es'⟩ := es'
                rw [List.findIdx?_toArray]; exact h1
              intro _
              refine ⟨ι, undef, _, .inr ⟨?_, rfl⟩, Mp.up.refl _ _, .dead, S.setMap (cl2 := cl) (m2 := es'.modify i fun e => { e with val := ρc x }) hb hp (by rw [Array.toList_modify]; exact h2 _ hx), fun _ e => by simp at e⟩
              simp only [execOp, ho, hmc, hk, Instr.entryStore, Sem.run_bind, Result.andThen_ok, run_getMap hes, asInt, asIntOf, Sem.run_pure, h1', run_setMap _ hes]
          · simp at hu
        · simp at hu
      · simp at hu
    · simp at hr
  · simp at hr
end Go.Ev
