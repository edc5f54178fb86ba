/- Proved here: what the reckoner says of values that are made of parts, and of conversions, is what the model does. -/
import Derived.Test.YtnbhgeehlcjmdaaGreatV8
import Derived.Laws.BitsLemmas
namespace Go.Ev
open Go
variable {P : Program} {w w0 : World} {ι : Mp} {B : Bd} {h : HT} {nx : Nat} {ρ : Env} {ρc : Operand → Value} {o : Oper} {r : AV × Ups × Nat}

theorem run_places : ∀ (l : List Field), (l.all fun f => (sizeT P f.type).isSome) = true →
    (l.mapM fun f => (do pure (f.offset, ← Go.sizeOf f.type) : Sem (Nat × Nat))).run P w = .ok (l.map fun f => (f.offset, (sizeT P f.type).getD 0)) w
  | [], _ => by simp
  | f :: l, hl => by
    simp only [List.all_cons, Bool.and_eq_true] at hl
    obtain ⟨n, hn⟩ := Option.isSome_iff_exists.1 hl.1
    simp only [List.mapM_cons, Sem.run_bind, run_sizeOf' hn, Result.andThen_ok, Sem.run_pure, run_places l hl.2, List.map_cons, hn, Option.getD_some]

theorem placeF_spec {fields : Array Field} {i : Nat} {q : Nat × Nat} (h : placeF P fields.toList i = some q) :
    (fields.map fun f => (f.offset, (sizeT P f.type).getD 0))[i]? = some q := by
  unfold placeF at h
  split at h
  · rename_i f hf
    split at h
    · rename_i n hn
      simp at h; subst h
      have : fields[i]? = some f := by simpa using hf
      simp [this, hn]
    · simp at h
  · simp at h

theorem ok_build (S : Sim B w0 ι h nx w) (E : ER1 ι ρ ρc) {t : TypeId} {ps : Array (Nat × Operand)} (ho : o.op = .build t ps) (hr : oBuild P ρ t ps nx = some r) : OpOK P ρc o B w0 ι h w r := by
  unfold oBuild at hr
  split at hr
  · rename_i l hl
    have hps := partsA_spec E hl
    split at hr
    · rename_i v hv
      simp at hr; subst hr
      unfold buildA at hv
      split at hv
      · rename_i z fields hz hd
        obtain ⟨zv, hzr, hzv⟩ := run_zero' (P := P) hz
        split at hv
        · rename_i hs
          split at hv
          · rename_i cs hf
            simp at hv; subst hv
            obtain ⟨c', g1, g2⟩ := fill_spec (placeF P fields.toList) (fun i => (fields.map fun f => (f.offset, (sizeT P f.type).getD 0))[i]?) l _ z.cells cs zv.cells (fun i q hq => placeF_spec hq) hps (hzv ι).cells hf
            refine OpOK.same S (.agg g2) ?_
            have hm : (fields.mapM fun f => (do pure (f.offset, ← Go.sizeOf f.type) : Sem (Nat × Nat))).run P w = .ok (fields.map fun f => (f.offset, (sizeT P f.type).getD 0)) w := by
              rw [Array.mapM_eq_mapM_toList]
              simp only [Sem.run_map, run_places fields.toList hs]
              simp
              apply Array.ext'
              simp
            simp only [execOp, ho, Instr.build, Sem.run_bind, hzr, run_underlying' hd, Result.andThen_ok, hm, Array.toList_map, g1, Sem.run_pure]
          · simp at hv
        · simp at hv
      · rename_i z n elem hz hd
        obtain ⟨zv, hzr, hzv⟩ := run_zero' (P := P) hz
        split at hv
        · rename_i size hsz
          split at hv
          · rename_i cs hf
            simp at hv; subst hv
            obtain ⟨c', g1, g2⟩ := fill_spec (fun i => some (i * size, size)) (fun i => some (i * size, size)) l _ z.cells cs zv.cells (fun i q hq => hq) hps (hzv ι).cells hf
            refine OpOK.same S (.agg g2) ?_
            simp only [execOp, ho, Instr.build, Sem.run_bind, hzr, run_underlying' hd, Result.andThen_ok, run_sizeOf' hsz, Array.toList_map, g1, Sem.run_pure]
          · simp at hv
        · simp at hv
      · simp at hv
    · simp at hr
  · simp at hr

/-- zeroes, laid again and again -/
theorem repl_length (n : Nat) (z : List AV) : (repl n z).length = n * z.length := by
  induction n with
  | zero => simp [repl]
  | succ n ih => simp [repl, ih, Nat.succ_mul, Nat.add_comm]
theorem repl_get (n : Nat) (z : List AV) (i : Nat) (hi : i < n * z.length) : (repl n z)[i]? = z[i % z.length]? := by
  induction n generalizing i with
  | zero => simp at hi
  | succ n ih =>
    simp only [repl]
    by_cases hlt : i < z.length
    · rw [List.getElem?_append_left hlt, Nat.mod_eq_of_lt hlt]
    · rw [List.getElem?_append_right (by omega), ih _ (by rw [Nat.succ_mul] at hi; omega)]
      congr 1
      rw [Nat.mod_eq_sub_mod (a := i) (by omega)]
theorem repl_VRs {z : List AV} {zv : Array Value} (hz : VRs ι z zv.toList) (n m : Nat) (hm : m = n * z.length) : VRs ι (repl n z) ((Array.range m).map (fun i => zv[i % zv.size]!)).toList := by
  subst hm
  have hl := hz.length
  refine VRs.mk (by simp [repl_length]) fun i a ha => ?_
  have hi : i < n * z.length := by
    have := (List.getElem?_eq_some_iff.1 ha).1
    rw [repl_length] at this; exact this
  rw [repl_get n z i hi] at ha
  obtain ⟨x, hx, hv⟩ := hz.get ha
  have hzl : zv.size = z.length := by simpa using hl.symm
  refine ⟨x, ?_, hv⟩
  have hx' : zv[i % zv.size]? = some x := by rw [hzl]; simpa using hx
  simp [hi, Array.getElem!_eq_getD, hx']

theorem al_buildSlice (E : ER1 ι ρ ρc) {t : TypeId} {len : Nat} {ps : Array (Nat × Operand)} (ho : o.op = .buildSlice t len ps) (hr : oBuildSlice P ρ t len ps nx = some r) : AllocOK P ρc o ι w r nx := by
  unfold oBuildSlice at hr
  split at hr
  · rename_i l hl
    have hps := partsA_spec E hl
    split at hr
    · rename_i cs hv
      simp at hr; subst hr
      unfold rowA elemT at hv
      split at hv
      · rename_i elem hel
        split at hel
        · rename_i e hd
          simp at hel; subst hel
          split at hv
          · rename_i size z hsz hz
            obtain ⟨zv, hzr, hzv⟩ := run_zero' (P := P) hz
            split at hv
            · rename_i hc
              obtain ⟨hmost, hzl⟩ := hc
              obtain ⟨c', g1, g2⟩ := fill_spec (fun i => some (i * size, size)) (fun i => some (i * size, size)) l _ (repl len z.cells) cs _ (fun i q hq => hq) hps (repl_VRs (hzv ι).cells len (len * size) (by rw [hzl])) hv
              refine ⟨_, _, { w with heap := w.heap.push (.cells c' e (0, 0)) }, _, _, _, rfl, ?_, rfl, rfl, rfl, rfl, .row g2, fun ι' hp => .slc 0 len len hp⟩
              have hbig : ¬ (len * size > 2 ^ 24) := by unfold most at hmost; omega
              simp only [execOp, ho, Instr.buildSlice, Sem.run_bind, run_underlying' hd, run_sizeOf' hsz, Result.andThen_ok, Sem.run_ite, hbig, if_false, Sem.run_pure, hzr, Array.toList_map]
              by_cases h0 : len * size = 0
              · simp only [h0, if_true]
                have e1 : Array.range 0 = (#[] : Array Nat) := rfl
                rw [h0] at g1
                simp only [e1, Array.map_empty] at g1 ⊢
                simp only [g1, newRow, Sem.run_bind, run_newObj, Result.andThen_ok, Sem.run_pure]
              · simp only [h0, if_false, Result.andThen_ok, g1, newRow, Sem.run_bind, run_newObj, Sem.run_pure]
            · simp at hv
          · simp at hv
        · simp at hel
      · simp at hv
    · simp at hr
  · simp at hr

theorem al_makeSlice (E : ER1 ι ρ ρc) {t : TypeId} {l c : Operand} (ho : o.op = .makeSlice t l c) (hr : oMakeSlice P ρ t l c nx = some r) : AllocOK P ρc o ι w r nx := by
  unfold oMakeSlice at hr
  split at hr
  · rename_i lv cv elem hl hc hel
    split at hr
    · rename_i ln cn z size bytes hln hcn hz hsz hby
      split at hr
      · rename_i hcond
        obtain ⟨h1, h2, h3, h4⟩ := hcond
        simp at hr; subst hr
        obtain ⟨k1, e1⟩ := (E l _ hl).nat hln
        obtain ⟨k2, e2⟩ := (E c _ hc).nat hcn
        obtain ⟨zv, hzr, hzv⟩ := run_zero' (P := P) hz
        obtain ⟨i, hi, hib⟩ := run_info' (P := P) (w := w) hby
        unfold elemT at hel
        split at hel
        · rename_i e hd
          simp at hel; subst hel
          have g2 := repl_VRs (hzv ι).cells cn (cn * size) (by rw [h4])
          refine ⟨_, _, { w with heap := w.heap.push (.cells _ e (0, 0)) }, _, _, _, rfl, ?_, rfl, rfl, rfl, rfl, .row g2, fun ι' hp => .slc 0 ln cn hp⟩
          unfold most at h2
          have w1 : IntKind.i64.wrap (ln : Int) = ln := by rw [IntKind.wrap_i64]; omega
          have w2 : IntKind.i64.wrap (cn : Int) = cn := by rw [IntKind.wrap_i64]; omega
          have hmul : (bytes : Int) * (cn : Int) ≤ 2 ^ 48 := by
            have : bytes * cn ≤ 4096 * 1048576 := Nat.mul_le_mul h3 h2
            have h5 : ((bytes * cn : Nat) : Int) ≤ 4096 * 1048576 := by omega
            simp only [Int.natCast_mul] at h5; omega
          have t1 : (decide ((cn : Int) < 0) || decide ((i.bytes : Int) * (cn : Int) > 2 ^ 48) || decide ((ln : Int) < 0) || decide ((ln : Int) > (cn : Int))) = false := by
            rw [hib]; simp only [Bool.or_eq_false_iff, decide_eq_false_iff_not]; omega
          simp only [execOp, ho, Instr.makeSlice, Sem.run_bind, run_underlying' hd, Result.andThen_ok, asInt, e1, e2, asIntOf, Sem.run_pure, hi, w1, w2, t1, Bool.false_eq_true, if_false, run_askRoom, Int.toNat_natCast, run_sizeOf' hsz, Sem.run_ite, hzr]
          by_cases h0 : cn * size = 0
          · have e1 : Array.range 0 = (#[] : Array Nat) := rfl
            simp only [h0, if_true, Result.andThen_ok, newRow, Sem.run_bind, run_newObj, Sem.run_pure, e1, Array.map_empty, Nat.add_zero]
          · simp only [h0, if_false, Result.andThen_ok, newRow, Sem.run_bind, run_newObj, Sem.run_pure]
        · simp at hel
      · simp at hr
    · simp at hr
  · simp at hr
end Go.Ev
