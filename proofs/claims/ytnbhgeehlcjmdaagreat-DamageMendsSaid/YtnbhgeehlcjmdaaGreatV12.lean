/- Proved here: what the reckoner says of append is what the model does. -/
import Derived.Test.YtnbhgeehlcjmdaaGreatV11
namespace Go.Ev
open Go
variable {P : Program} {w w0 : World} {ι : Mp} {B : Bd} {h : HT} {nx : Nat} {ρ : Env} {ρc : Operand → Value} {o : Oper} {r : AV × Ups × Nat}
variable {ats : Array TypeId} {ty : TypeId} {cs : Array Bool}

/-- what is appended: n elements, and their cells -/
def Src (P : Program) (ats : Array TypeId) (elem : TypeId) (size bytes n : Nat) (v : Value) (xs : Array Value) (w : World) : Prop :=
  ∃ t1 d, ats[1]? = some t1 ∧ P.underlying t1 = some d ∧ bytes * n ≤ 2 ^ 48 ∧
    (((∃ k, d = .int k) ∧ (∃ k, v = .int k (n : Int)) ∧ n < 2 ^ 40 ∧ 0 < size ∧ ∃ z, (∀ w1 : World, (zeroValue elem).run P w1 = .ok z w1) ∧ xs = Builtin.zeroCells z.cells n) ∨
     ((∀ k, d ≠ .int k) ∧ (∀ w1 : World, (Builtin.lenOf v).run P w1 = .ok n w1) ∧ ∀ w1 : World, w1.heap = w.heap → (Builtin.firstCells size n v).run P w1 = .ok xs w1))

theorem newA_spec (S : Sim B w0 ι h nx w) {elem : TypeId} {size bytes n : Nat} {x : AV} {v : Value} {new : List AV} (hv : VR ι x v) (hb : bytes ≤ 4096) (hs : 0 < size) (hn : n ≤ most) (h : newA P h ats elem size x = some (n, new)) :
    ∃ xs : Array Value, Src P ats elem size bytes n v xs w ∧ VRs ι new xs.toList ∧ new.length = n * size := by
  have hbn : bytes * n ≤ 2 ^ 48 := by
    unfold most at hn
    have := Nat.mul_le_mul hb hn
    omega
  unfold most at hn
  unfold newA isZeros at h
  cases h1 : ats[1]? with
  | none => simp [h1] at h
  | some t1 =>
    simp only [h1] at h
    cases h2 : P.underlying t1 with
    | none => simp [h2] at h
    | some d =>
      simp only [h2] at h
      split at h
      · rename_i hz
        split at hz <;> simp at hz
        rename_i k e
        simp at e; subst e
        split at h
        · rename_i m z hm hz'
          split at h
          · rename_i hc
            simp at h; obtain ⟨rfl, rfl⟩ := h
            obtain ⟨zv, hzr, hzv⟩ := run_zero' (P := P) hz'
            exact ⟨_, ⟨t1, _, h1, h2, hbn, .inl ⟨⟨k, rfl⟩, hv.nat hm, by omega, hs, zv, hzr, rfl⟩⟩, zeroCells_VRs (hzv ι) m, by rw [repl_length, hc.2]⟩
          · simp at h
        · simp at h
      · rename_i hz
        split at h
        · rename_i m hm
          split at h
          · rename_i l hl
            simp at h; obtain ⟨rfl, rfl⟩ := h
            obtain ⟨xs, x1, x2⟩ := srcA_spec (P := P) S hv hm (Nat.le_refl _) hl
            refine ⟨xs, ⟨t1, d, h1, h2, hbn, .inr ⟨fun k e => ?_, lenA_spec hv hm, x1⟩⟩, x2, srcA_len hl⟩
            subst e; simp at hz
          · simp at h
        · simp at h
      · simp at h

theorem app_fits {sT elem : TypeId} {size bytes n len cap : Nat} {v : Value} {xs : Array Value} {base : Option Addr} (h0 : ats[0]? = some sT) (hu : P.underlying sT = some (.slice elem)) (hsz : sizeT P elem = some size) (hby : bytesT P elem = some bytes)
    (hs : Src P ats elem size bytes n v xs w) (hle : len + n ≤ cap) :
    (Builtin.append_ ats ty #[.slice base len cap, v]).run P w = (do (match base with | some a => storeCells (a.add (len * size)) xs.toList | none => pure ()); pure (.slice base (len + n) cap) : Sem Value).run P w := by
  obtain ⟨t1, d, h1, h2, hbn, hc⟩ := hs
  have hnlt : ¬ (cap < len + n) := by omega
  obtain ⟨i, hi, hib⟩ := run_info' (P := P) (w := w) hby
  rcases hc with ⟨⟨k, rfl⟩, ⟨k', rfl⟩, hn, hpos, z, hz, rfl⟩ | ⟨hd, hlen, hx⟩
  · have w1 : IntKind.i64.wrap (n : Int) = n := by rw [IntKind.wrap_i64]; omega
    have t0 : ¬ ((n : Int) < 0) := by omega
    have t2 : ¬ ((n : Int) * (i.bytes : Int) > 2 ^ 48) := by
      rw [hib]
      have : ((bytes * n : Nat) : Int) ≤ 2 ^ 48 := by exact_mod_cast hbn
      rw [Int.natCast_mul, Int.mul_comm] at this; omega
    by_cases hz0 : n * size = 0
    · have e : Builtin.zeroCells z.cells n = #[] := by
        have : n = 0 := by
          rcases Nat.mul_eq_zero.1 hz0 with e | e
          · exact e
          · omega
        subst this; simp [Builtin.zeroCells]
      cases base <;> simp only [Builtin.append_, h0, h1, List.getElem?_toArray, List.getElem?_cons_zero, List.getElem?_cons_succ, Sem.run_bind, Sem.run_ite, Sem.run_pure, Result.andThen_ok, run_underlying' hu, run_underlying' h2, run_sizeOf' hsz, asInt, asIntOf, hi, w1, t0, t2, hle, hz0, e, if_true, if_false, Int.toNat_natCast, Bool.not_true, Bool.false_eq_true]
    · cases base <;> simp only [Builtin.append_, h0, h1, List.getElem?_toArray, List.getElem?_cons_zero, List.getElem?_cons_succ, Sem.run_bind, Sem.run_ite, Sem.run_pure, Result.andThen_ok, run_underlying' hu, run_underlying' h2, run_sizeOf' hsz, asInt, asIntOf, hi, w1, t0, t2, hle, hz0, hz, if_true, if_false, Int.toNat_natCast, Bool.not_true, Bool.false_eq_true]
  · have hx' := hx w rfl
    have hm : (match d with | .int _ => true | _ => false) = false := by
      cases d <;> first | rfl | exact absurd rfl (hd _)
    cases base <;> simp [Builtin.append_, h0, h1, run_underlying' hu, run_underlying' h2, run_sizeOf' hsz, hlen, hle, hx']
theorem run_info2 {t : TypeId} {n : Nat} (h : bytesT P t = some n) : ∃ i, (∀ w : World, (typeInfo t).run P w = .ok i w) ∧ i.bytes = n := by
  unfold bytesT at h
  split at h
  · rename_i i hi
    simp at h; subst h
    exact ⟨i, fun w => by simp [typeInfo, hi], rfl⟩
  · simp at h

theorem app_grows {sT elem : TypeId} {size bytes n len cap : Nat} {v z : Value} {xs olds : Array Value} {base : Option Addr} (h0 : ats[0]? = some sT) (hu : P.underlying sT = some (.slice elem)) (hsz : sizeT P elem = some size) (hby : bytesT P elem = some bytes)
    (hs : Src P ats elem size bytes n v xs w) (hgt : ¬ len + n ≤ cap) (hz : ∀ w1 : World, (zeroValue elem).run P w1 = .ok z w1) (hold : ∀ w1 : World, w1.heap = w.heap → (Builtin.firstCells size len (.slice base len cap)).run P w1 = .ok olds w1)
    (hb0 : 0 < bytes) (hbig : len + n < 2 ^ 40) (hfit : (len + n) * bytes ≤ 140737488355328) :
    ∃ newCap, len + n ≤ newCap ∧ newCap ≤ 9223372036854775807 ∧ (Builtin.append_ ats ty #[.slice base len cap, v]).run P w = .ok (.slice (some ⟨w.heap.size, 0, none⟩) (len + n) newCap)
      { w with drawn := w.drawn + 1, heap := w.heap.push (.cells (olds ++ xs ++ Builtin.zeroCells z.cells (newCap - (len + n))) elem (0, 0)) } := by
  refine ⟨(Question.appendCap (len + n) cap elem).cut (w.tape w.drawn (.appendCap (len + n) cap elem)), cut_append _ _ _ _, cut_append_le _ _ _ _ (by omega), ?_⟩
  generalize hcp : (Question.appendCap (len + n) cap elem).cut (w.tape w.drawn (.appendCap (len + n) cap elem)) = newCap
  obtain ⟨t1, d, h1, h2, hbn, hc⟩ := hs
  obtain ⟨i, hi, hib⟩ := run_info2 (P := P) hby
  have g1 : ¬ (((len + n : Nat) : Int) > IntKind.i64.max) := by
    have : IntKind.i64.max = 9223372036854775807 := rfl
    rw [this]; omega
  have g2 : ¬ (Builtin.nextslicecap (len + n) cap * i.bytes > 2 ^ 48) := by
    rw [hib]
    have := growslice_fits (old := cap) (by omega) hfit
    omega
  have ho := hold { w with drawn := w.drawn + 1 } rfl
  rcases hc with ⟨⟨k, rfl⟩, ⟨k', rfl⟩, hn, hpos, z', hz', rfl⟩ | ⟨hd, hlen, hx⟩
  · have hzz : z' = z := by
      have := hz w
      rw [hz' w] at this
      cases this; rfl
    subst hzz
    have w1 : IntKind.i64.wrap (n : Int) = n := by rw [IntKind.wrap_i64]; omega
    have t0 : ¬ ((n : Int) < 0) := by omega
    have t2 : ¬ ((n : Int) * (i.bytes : Int) > 2 ^ 48) := by
      rw [hib]
      have : ((bytes * n : Nat) : Int) ≤ 2 ^ 48 := by exact_mod_cast hbn
      rw [Int.natCast_mul, Int.mul_comm] at this; omega
    by_cases hz0 : n * size = 0
    · have e : Builtin.zeroCells z'.cells n = #[] := by
        have : n = 0 := by
          rcases Nat.mul_eq_zero.1 hz0 with e | e
          · exact e
          · omega
        subst this; simp [Builtin.zeroCells]
      simp only [Builtin.append_, h0, h1, List.getElem?_toArray, List.getElem?_cons_zero, List.getElem?_cons_succ, Sem.run_bind, Sem.run_ite, Sem.run_pure, Result.andThen_ok, run_underlying' hu, run_underlying' h2, run_sizeOf' hsz, asInt, asIntOf, hi, w1, t0, t2, hgt, hz0, hz', e, if_true, if_false, Int.toNat_natCast, Bool.not_true, Bool.false_eq_true,
        g1, g2, false_and, run_choose, Question.forced, hcp, run_askRoom, ho, newRow, run_newObj]
    · simp only [Builtin.append_, h0, h1, List.getElem?_toArray, List.getElem?_cons_zero, List.getElem?_cons_succ, Sem.run_bind, Sem.run_ite, Sem.run_pure, Result.andThen_ok, run_underlying' hu, run_underlying' h2, run_sizeOf' hsz, asInt, asIntOf, hi, w1, t0, t2, hgt, hz0, hz', if_true, if_false, Int.toNat_natCast, Bool.not_true, Bool.false_eq_true,
        g1, g2, false_and, run_choose, Question.forced, hcp, run_askRoom, ho, newRow, run_newObj]
  · have hx' := hx { w with drawn := w.drawn + 1 } rfl
    have hm : (match d with | .int _ => true | _ => false) = false := by
      cases d <;> first | rfl | exact absurd rfl (hd _)
    have hb1 : ¬ (i.bytes = 0) := by rw [hib]; omega
    simp only [Builtin.append_, h0, h1, List.getElem?_toArray, List.getElem?_cons_zero, List.getElem?_cons_succ, Sem.run_bind, Sem.run_ite, Sem.run_pure, Result.andThen_ok, run_underlying' hu, run_underlying' h2, run_sizeOf' hsz, hlen, hi, hgt, hz, if_true, if_false, Bool.not_false, Bool.false_eq_true,
        g1, g2, false_and, run_choose, Question.forced, hcp, run_askRoom, ho, hx', newRow, run_newObj]
/-- a row that was made for what is appended: the old ones, the new ones, what is left -/
theorem Sim.grown (S : Sim B w0 ι h nx w) (hnx : nx + 1 ≤ B.hi) {size n len newCap : Nat} {old new : List AV} {olds xs : Array Value} {z : Value} {elem : TypeId} (ho : VRs ι old olds.toList) (hx : VRs ι new xs.toList) (hz : z.cells.size = size)
    (hlo : old.length = len * size) (hln : new.length = n * size) (hle : len + n ≤ newCap) (h63 : newCap ≤ 9223372036854775807) :
    ∃ ι', Mp.up (nx + 1) ι ι' ∧ VR ι' (.sl nx 0 (len + n) (len + n) (size + 1)) (.slice (some ⟨w.heap.size, 0, none⟩) (len + n) newCap) ∧
      Sim B w0 ι' (hset h nx (some (.cells (old ++ new)))) (nx + 1) { w with drawn := w.drawn + 1, heap := w.heap.push (.cells (olds ++ xs ++ Builtin.zeroCells z.cells (newCap - (len + n))) elem (0, 0)) } := by
  have l1 := ho.length
  have l2 := hx.length
  have hcs : (olds ++ xs ++ Builtin.zeroCells z.cells (newCap - (len + n))).size = newCap * size := by
    have e1 : olds.size = len * size := by simp at l1; omega
    have e2 : xs.size = n * size := by simp at l2; omega
    have e3 : len * size + n * size + (newCap - (len + n)) * size = newCap * size := by
      rw [← Nat.add_mul, ← Nat.add_mul]; congr 1; omega
    simp only [Array.size_append, Builtin.zeroCells, Array.size_map, Array.size_range, e1, e2, hz, e3]
  have hlen : (old ++ new).length = (len + n) * size := by rw [List.length_append, hlo, hln, Nat.add_mul]
  have hle2 : (len + n) * size ≤ newCap * size := Nat.mul_le_mul_right _ hle
  obtain ⟨ι', hle', hp, S'⟩ := S.newRow hnx (vs := old ++ new) (e := elem) (fz := (0, 0)) (c := olds ++ xs ++ Builtin.zeroCells z.cells (newCap - (len + n)))
    (w' := { w with drawn := w.drawn + 1, heap := w.heap.push (.cells (olds ++ xs ++ Builtin.zeroCells z.cells (newCap - (len + n))) elem (0, 0)) })
    (by
      have := ho.append hx
      have e : (old ++ new).length = (olds.toList ++ xs.toList).length := this.length
      rw [Array.toList_append, Array.toList_append, e, List.take_left']
      · exact this
      · rfl)
    (by rw [hlen, hcs]; exact hle2) (by simp) (fun k hk => by simp [Array.getElem?_push]; omega) (by simp) (.inl rfl) rfl rfl rfl
  refine ⟨ι', hle', ?_, S'⟩
  exact .slo 0 _ _ size 0 newCap hp (Nat.le_refl _) hle (fun _ => by simp) (by simp only [Nat.zero_add]; rw [hcs]; exact Nat.le_refl _) h63

/-- what is appended where there was room that one did not know of: the row is another one's now -/
theorem Sim.taken (S : Sim B w0 ι h nx w) (hnx : nx + 1 ≤ B.hi) {b off size n len c : Nat} {p : Place} {o' : Nat} {old new cells : List AV} {xs : Array Value} (hb : hget h b = some (.cells cells)) (hp : ι b = some p) (hx : VRs ι new xs.toList)
    (hok : ∀ v ∈ new, cellOK v = true) (hold : cut cells off (len * size) = some old) (hln : new.length = n * size) (hle : len + n ≤ c) (hs : o' + c * size ≤ p.size) (ho : 0 < len * size → o' = p.base + off) (h63 : c ≤ 9223372036854775807) (hu8 : cells.all u8V = true → new.all u8V = true) :
    ∃ w', (storeCells ((⟨p.blk, o', none⟩ : Addr).add (len * size)) xs.toList).run P w = .ok () w' ∧ ∃ ι', Mp.up (nx + 1) ι ι' ∧ VR ι' (.sl nx 0 (len + n) (len + n) (size + 1)) (.slice (some ⟨p.blk, o', none⟩) (len + n) c) ∧
      Sim B w0 ι' (hset (hset h b none) nx (some (.cells (old ++ new)))) (nx + 1) w' := by
  obtain ⟨q, hq, hob⟩ := S.objs1 hb hp
  rw [hp] at hq; cases hq
  obtain ⟨c0, e, fz, h1, h2, h3, h4, h5⟩ := hob
  obtain ⟨k1, rfl⟩ := cut_spec hold
  have l2 := hx.length
  have hroom : (len + n) * size ≤ c * size := Nat.mul_le_mul_right _ hle
  rw [Nat.add_mul] at hroom
  have h4w : fz.1 = fz.2 ∨ c0.size ≤ fz.1 := h4.imp_right (·.1)
  obtain ⟨w', c', r1, r2, r3, r4, r5, r6, r7, r8, r9⟩ := run_storeCells' (P := P) xs.toList w c0 (o' + len * size) 0 h1 (by simp at l2 ⊢; omega) (fun o ho => by omega) (hx.all hok)
  refine ⟨w', by rw [addr_add]; exact r1, ι.put nx ⟨p.blk, o', p.size⟩, Mp.up.put (S.fresh nx (Nat.le_refl _) hnx) (Nat.lt_succ_self _), ?_, ?_⟩
  · exact .slo (p := ⟨p.blk, o', p.size⟩) 0 _ _ size o' c (Mp.put_same ..) (Nat.le_refl _) hle (fun _ => rfl) hs h63
  · refine S.move hnx hb hp r2 r3 ⟨c', e, fz, r4, by rw [r5, h2], ?_, by
      rw [r5]
      refine h4.imp_right fun q => ⟨q.1, ?_⟩
      rw [List.all_append, Bool.and_eq_true]
      refine ⟨?_, hu8 q.2⟩
      rw [List.all_eq_true] at *
      exact fun x hx => q.2 x (List.mem_of_mem_drop (List.mem_of_mem_take hx)), fun i v hi => ?_⟩ r7 r8 r9
    · simp only [List.length_append, List.length_take, List.length_drop, hln]
      have : min (len * size) (cells.length - off) = len * size := by omega
      omega
    · have hmono : ι.le (ι.put nx ⟨p.blk, o', p.size⟩) := Mp.put_le (S.fresh nx (Nat.le_refl _) hnx)
      have hlo : ((cells.drop off).take (len * size)).length = len * size := by simp; omega
      rw [r6 (o' + i)]
      rcases Nat.lt_or_ge i (len * size) with hlt | hge
      · rw [List.getElem?_append_left (by rw [hlo]; exact hlt), List.getElem?_take, if_pos hlt, List.getElem?_drop] at hi
        obtain ⟨y, hy, hv⟩ := h5 _ v hi
        refine ⟨y, ?_, hv.mono hmono⟩
        rw [if_neg (by omega), ho (by omega), Nat.add_assoc]
        exact hy
      · rw [List.getElem?_append_right (by rw [hlo]; exact hge), hlo] at hi
        obtain ⟨y, hy, hv⟩ := hx.get hi
        have hlt2 := (List.getElem?_eq_some_iff.1 hy).1
        refine ⟨y, ?_, hv.mono hmono⟩
        rw [if_pos (by omega), show o' + i - (o' + len * size + 0) = i - len * size by omega]
        exact hy

theorem ok_append (S : Sim B w0 ι h nx w) {l : List AV} {vs : Array Value} (hl : VRs ι l vs.toList) (hr : bAppend P ats h nx l = some r) : BiOK P .append ats ty cs vs B w0 ι h w r := by
  intro hh
  obtain ⟨vs⟩ := vs
  simp only at hl
  unfold bAppend at hr
  split at hr
  · rename_i s x
    obtain ⟨sv, xv, rfl, hs, hx⟩ := hl.two
    have fin : ∀ {v : Value} {w' : World} {ι' : Mp}, (Builtin.append_ ats ty #[sv, xv]).run P w = .ok v w' → Mp.up r.2.2 ι ι' → VR ι' r.1 v → Sim B w0 ι' (upsH h r.2.1) r.2.2 w' → (r.2.1 = [] → ι' = ι ∧ w' = w) → ∃ ι' x w', (builtin .append ats ty cs #[sv, xv]).run P w = .ok (.value x) w' ∧ Mp.up r.2.2 ι ι' ∧ VR ι' r.1 x ∧ Sim B w0 ι' (upsH h r.2.1) r.2.2 w' ∧ (r.2.1 = [] → ι' = ι ∧ w' = w) := by
      intro v w' ι' h1 h2 h3 h4 h5
      exact ⟨ι', v, w', by simp only [builtin, Sem.run_bind, h1, Result.andThen_ok, Sem.run_pure], h2, h3, h4, h5⟩
    unfold appendA at hr
    split at hr
    · rename_i sT h0
      split at hr
      · rename_i elem he
        have hu := elemT_spec he
        split at hr
        · rename_i size bytes z hsz hby hz
          obtain ⟨zv, hzr, hzv⟩ := run_zero' (P := P) hz
          split at hr
          · simp at hr
          · rename_i hcond
            simp only [not_or, Nat.not_lt, gt_iff_lt, ne_eq, Classical.not_not] at hcond
            obtain ⟨c1, c2, c3, c4⟩ := hcond
            have hzl : zv.cells.size = size := by have := (hzv ι).cells.length; simp at this; omega
            split at hr
            · rename_i n new hnew
              split at hr
              · rename_i hn
                obtain ⟨xs, hsrc, hxs, hln⟩ := newA_spec (P := P) (ats := ats) S hx c3 (by omega) hn hnew
                have hbig : ∀ len, len ≤ most → (len + n) * bytes ≤ 140737488355328 ∧ len + n < 2 ^ 40 := fun len hlen => by
                  unfold most at hlen hn
                  have := Nat.mul_le_mul (show len + n ≤ 2097152 by omega) c3
                  omega
                unfold appendB at hr
                split at hr
                · cases hs
                  split at hr
                  · rename_i hn0
                    subst hn0
                    simp at hr; subst hr
                    have := app_fits (ty := ty) (base := none) (len := 0) (cap := 0) h0 hu hsz hby hsrc (Nat.le_refl _)
                    exact fin (by rw [this]; simp only [Sem.run_bind, Sem.run_pure, Result.andThen_ok]) (Mp.up.refl _ _) .snil S (fun _ => ⟨rfl, rfl⟩)
                  · rename_i hn0
                    simp at hr; subst hr
                    obtain ⟨newCap, g1, g63, g2⟩ := app_grows (ty := ty) (base := none) (len := 0) (cap := 0) (olds := #[]) h0 hu hsz hby hsrc (by omega) hzr (fun w1 _ => by simp only [Builtin.firstCells, Sem.run_pure]) (by omega) (hbig 0 (by unfold most; omega)).2 (hbig 0 (by unfold most; omega)).1
                    obtain ⟨ι', i1, i2, i3⟩ := S.grown hh (len := 0) (old := []) (olds := #[]) (elem := elem) .nil hxs hzl (by simp) hln g1 g63
                    simp only [Nat.zero_add, List.nil_append] at g2 i2 i3
                    exact fin g2 i1 i2 i3 (fun e => by simp at e)
                · rename_i b off len cap opn
                  have hsl : ∃ a c, sv = .slice (some a) len c ∧ (opn = 0 → c = cap) ∧ cap ≤ c := by
                    cases hs with
                    | slc _ _ _ hp => exact ⟨_, _, rfl, fun _ => rfl, Nat.le_refl _⟩
                    | slo _ _ _ k o' c hp h1 h2 h3 h4 h5 => exact ⟨_, _, rfl, fun e => by omega, h2⟩
                  obtain ⟨a, c, rfl, hc0, hcc⟩ := hsl
                  split at hr
                  · rename_i hfit
                    split at hr
                    · rename_i cells hcs
                      split at hr
                      · rename_i l' hov
                        simp at hr; subst hr
                        have hz0 : opn = 0 ∨ 0 < cap ∨ new = [] := by
                          rcases Nat.eq_zero_or_pos cap with e | e
                          · right; right
                            have : n = 0 := by omega
                            subst this
                            simpa using hln
                          · exact .inr (.inl e)
                        obtain ⟨w', g1, g2⟩ := S.writeAt (P := P) hs (cellsOf_spec hcs) hxs hz0 hov
                        have := app_fits (ty := ty) (base := some a) (len := len) (cap := c) h0 hu hsz hby hsrc (by omega)
                        refine fin (by rw [this]; simp only [Sem.run_bind, g1, Sem.run_pure, Result.andThen_ok]; rfl) (Mp.up.refl _ _) ?_ g2 (fun e => by simp at e)
                        cases hs with
                        | slc _ _ _ hp => exact .slc _ _ _ hp
                        | slo _ _ _ k o' c hp h1 h2 h3 h4 h5 => exact .slo _ _ _ _ _ _ hp hfit h2 h3 h4 h5
                      · simp at hr
                    · simp at hr
                  · rename_i hfit
                    split at hr
                    · simp at hr
                    · rename_i hmost
                      split at hr
                      · rename_i hop
                        have := hc0 hop
                        subst this
                        split at hr
                        · rename_i old hold
                          simp at hr; subst hr
                          obtain ⟨olds, x1, x2, x3⟩ := srcA_slice (P := P) S hs (Nat.le_refl _) hold
                          obtain ⟨newCap, g1, g63, g2⟩ := app_grows (ty := ty) (base := some a) (len := len) (cap := c) (olds := olds) h0 hu hsz hby hsrc hfit hzr (fun w1 hw1 => by simp only [Builtin.firstCells]; exact x1 w1 hw1) (by omega) (hbig len (by omega)).2 (hbig len (by omega)).1
                          obtain ⟨ι', i1, i2, i3⟩ := S.grown hh (elem := elem) x2 hxs hzl x3 hln g1 g63
                          exact fin g2 i1 i2 i3 (fun e => by simp at e)
                        · simp at hr
                      · rename_i hop
                        split at hr
                        · rename_i hop2
                          obtain ⟨ho2, hall⟩ := hop2
                          split at hr
                          · rename_i cells hcs
                            split at hr
                            · simp at hr
                            rename_i hu8
                            split at hr
                            · rename_i old hold
                              simp at hr; subst hr
                              have hb := cellsOf_spec hcs
                              have hu9 : cells.all u8V = true → new.all u8V = true := fun e => by
                                rw [e] at hu8
                                cases hn9 : new.all u8V with
                                | true => rfl
                                | false => rw [hn9] at hu8; exact absurd rfl hu8
                              subst ho2
                              by_cases hfit2 : len + n ≤ c
                              · cases hs with
                                | slo _ _ _ k o' c hp h1 h2 h3 h4 h5 =>
                                  rename_i p
                                  obtain ⟨w', g1, ι', i1, i2, i3⟩ := S.taken (P := P) hh hb hp hxs (by simpa using hall) hold hln hfit2 h4 (fun hpos => h3 (by
                                    rcases Nat.eq_zero_or_pos len with e | e
                                    · subst e; simp at hpos
                                    · omega)) h5 hu9
                                  have := app_fits (ty := ty) (base := some ⟨p.blk, o', none⟩) (len := len) (cap := c) h0 hu hsz hby hsrc hfit2
                                  exact fin (by rw [this]; simp only [Sem.run_bind, g1, Sem.run_pure, Result.andThen_ok]) i1 i2 i3 (fun e => by simp at e)
                              · have hold' : srcA h size len (.sl b off len cap (size + 1)) = some old := by
                                  simp only [srcA, hcs, hold]
                                  split
                                  · rename_i e
                                    have := (cut_spec hold).2
                                    rw [e] at this; simp at this; rw [this]
                                  · rfl
                                obtain ⟨olds, x1, x2, x3⟩ := srcA_slice (P := P) S hs (Nat.le_refl _) hold'
                                obtain ⟨newCap, g1, g63, g2⟩ := app_grows (ty := ty) (base := some a) (len := len) (cap := c) (olds := olds) h0 hu hsz hby hsrc hfit2 hzr (fun w1 hw1 => by simp only [Builtin.firstCells]; exact x1 w1 hw1) (by omega) (hbig len (by omega)).2 (hbig len (by omega)).1
                                obtain ⟨ι', i1, i2, i3⟩ := (S.kill b).grown hh (elem := elem) x2 hxs hzl x3 hln g1 g63
                                exact fin g2 i1 i2 i3 (fun e => by simp at e)
                            · simp at hr
                          · simp at hr
                        · simp at hr
                · simp at hr
              · simp at hr
            · simp at hr
        · simp at hr
      · simp at hr
    · simp at hr
  · simp at hr
end Go.Ev
