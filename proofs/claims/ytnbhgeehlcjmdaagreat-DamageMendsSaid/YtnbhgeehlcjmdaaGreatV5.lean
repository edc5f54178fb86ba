/- Proved here: what the reckoner says of reads, parts, rows written, is what the model does. -/
import Derived.Test.YtnbhgeehlcjmdaaGreatV4
import Derived.Laws.Cells
import Derived.Laws.Rows
namespace Go.Ev
open Go
variable {P : Program} {w : World} {ι : Mp}

theorem run_underlying' {t : TypeId} {d : TypeDesc} (h : P.underlying t = some d) : (underlying t).run P w = .ok d w := by
  simp [underlying, h]
theorem run_sizeOf' {t : TypeId} {n : Nat} (h : sizeT P t = some n) : (Go.sizeOf t).run P w = .ok n w := by
  unfold sizeT at h
  split at h
  · rename_i i hi
    simp at h; subst h
    simp [Go.sizeOf, typeInfo, hi]
  · simp at h
theorem run_info' {t : TypeId} {n : Nat} (h : bytesT P t = some n) : ∃ i, (typeInfo t).run P w = .ok i w ∧ i.bytes = n := by
  unfold bytesT at h
  split at h
  · rename_i i hi
    simp at h; subst h
    exact ⟨i, by simp [typeInfo, hi], rfl⟩
  · simp at h
theorem run_isAgg' {t : TypeId} {b : Bool} (h : isAggT P t = some b) : (isAgg t).run P w = .ok b w := by
  unfold isAggT at h
  cases hd : P.underlying t with
  | none => simp [hd] at h
  | some d =>
    rw [hd] at h
    simp only [isAgg, Sem.run_bind, run_underlying' hd, Result.andThen_ok]
    cases d <;> simp_all
theorem run_zero' {t : TypeId} {z : AV} (h : zeroT P t = some z) : ∃ v, (∀ w : World, (zeroValue t).run P w = .ok v w) ∧ ∀ ι, VR ι z v := by
  unfold zeroT at h
  split at h
  · rename_i i hi
    split at h
    · rename_i v hv
      exact ⟨v, fun w => by simp [zeroValue, typeInfo, hi, hv], fun ι => VR.ofValue h⟩
    · simp at h
  · simp at h

theorem cut_spec {l m : List AV} {i n : Nat} (h : cut l i n = some m) : i + n ≤ l.length ∧ m = (l.drop i).take n := by
  unfold cut at h
  split at h
  · simp at h; exact ⟨by assumption, h.symm⟩
  · simp at h

theorem run_part' {t : TypeId} {cs : List AV} {c : Array Value} {off : Nat} {v : AV} (hv : VRs ι cs c.toList) (h : partA P t cs off = some v) :
    ∃ x, (part t c off).run P w = .ok x w ∧ VR ι v x := by
  unfold partA at h
  split at h
  · rename_i hg
    split at h
    · rename_i n hn
      split at h
      · rename_i l hl
        simp at h; subst h
        obtain ⟨hle, rfl⟩ := cut_spec hl
        refine ⟨.agg (c.extract off (off + n)), by simp [part, run_isAgg' hg, run_sizeOf' hn], .agg ?_⟩
        rw [Array.toList_extract]
        simp only [List.extract_eq_take_drop]
        have e : off + n - off = n := by omega
        rw [e]
        exact (hv.drop off).take n
      · simp at h
    · simp at h
  · rename_i hg
    obtain ⟨x, hx, hr⟩ := hv.get h
    refine ⟨x, ?_, hr⟩
    simp only [part, Sem.run_bind, run_isAgg' hg, Result.andThen_ok]
    have : c[off]? = some x := by simpa using hx
    simp [this]
  · simp at h

theorem addr_add (k o n : Nat) : (⟨k, o, none⟩ : Addr).add n = ⟨k, o + n, none⟩ := by
  unfold Addr.add; split
  · rename_i e; subst e; rfl
  · rfl

theorem run_load' {k o : Nat} {c : Array Value} {e : TypeId} {fz : Nat × Nat} {x : Value} (hw : w.heap[k]? = some (.cells c e fz)) (hx : c[o]? = some x) : (load ⟨k, o, none⟩).run P w = .ok x w := by
  have : w.cell? ⟨k, o, none⟩ = some x := by rw [cell_of_row w k o c e fz hw]; exact hx
  simp [this]

/-- cells of a live block, read -/
theorem run_cells' {off n : Nat} {p : Place} {vs l : List AV} (hr : ObjR ι p w.heap[p.blk]? (.cells vs)) (hl : cut vs off n = some l) :
    ∃ xs : Array Value, (∀ w1 : World, w1.heap = w.heap → (loadCells ⟨p.blk, p.base + off, none⟩ n).run P w1 = .ok xs w1) ∧ VRs ι l xs.toList := by
  obtain ⟨c, e, fz, h1, h2, h3, h4, h5⟩ := hr
  obtain ⟨hle, rfl⟩ := cut_spec hl
  have hcell : ∀ w1 : World, w1.heap = w.heap → ∀ j, j < n → w1.cell? ((⟨p.blk, p.base + off, none⟩ : Addr).add j) = some (c[p.base + off + j]?.getD undef) := fun w1 hw1 j hj => by
    rw [addr_add, cell_of_row w1 _ _ c e fz (by rw [hw1]; exact h1)]
    have : p.base + off + j < c.size := by rw [h2]; omega
    simp [this]
  refine ⟨_, fun w1 hw1 => run_loadCells w1 _ n (fun j => c[p.base + off + j]?.getD undef) (hcell w1 hw1), ?_⟩
  refine VRs.mk (by simp; omega) fun i a ha => ?_
  have hi : i < n := by
    have := List.getElem?_eq_some_iff.1 ha
    obtain ⟨hlt, _⟩ := this
    simp at hlt; omega
  have ha' : vs[off + i]? = some a := by
    rw [List.getElem?_take] at ha
    simp [hi] at ha
    exact ha
  obtain ⟨y, hy, hv⟩ := h5 _ a ha'
  refine ⟨y, ?_, hv⟩
  have hy' : c[p.base + off + i]? = some y := by rw [Nat.add_assoc]; exact hy
  simp [hi, hy']

theorem cellsOf_spec {h : HT} {b : Nat} {vs : List AV} (hc : cellsOf h b = some vs) : hget h b = some (.cells vs) := by
  unfold cellsOf at hc
  split at hc
  · rename_i x hx; simp at hc; subst hc; exact hx
  · simp at hc

theorem run_loadVar' {t : TypeId} {off : Nat} {p : Place} {vs : List AV} {v : AV} (hr : ObjR ι p w.heap[p.blk]? (.cells vs)) (hl : partA P t vs off = some v) :
    ∃ x, (loadVar t ⟨p.blk, p.base + off, none⟩).run P w = .ok x w ∧ VR ι v x := by
  unfold partA at hl
  split at hl
  · rename_i hg
    split at hl
    · rename_i n hn
      split at hl
      · rename_i l hcut
        simp at hl; subst hl
        obtain ⟨xs, hxs, hv⟩ := run_cells' (P := P) hr hcut
        exact ⟨.agg xs, by simp [loadVar, run_isAgg' hg, run_sizeOf' hn, hxs w rfl], .agg hv⟩
      · simp at hl
    · simp at hl
  · rename_i hg
    obtain ⟨c, e, fz, h1, h2, h3, h4, h5⟩ := hr
    obtain ⟨y, hy, hv⟩ := h5 _ v hl
    refine ⟨y, ?_, hv⟩
    have hy' : c[p.base + off]? = some y := hy
    simp only [loadVar, Sem.run_bind, run_isAgg' hg, Result.andThen_ok]
    simpa using run_load' (P := P) h1 hy'
  · simp at hl

/-! rows that are written -/
theorem over_spec : ∀ {cs vs l : List AV}, over cs vs = some l → l.length = cs.length ∧ vs.length ≤ cs.length ∧ (∀ v ∈ vs, cellOK v = true) ∧ (cs.all u8V = true → l.all u8V = true) ∧ ∀ j, l[j]? = if j < vs.length then vs[j]? else cs[j]?
  | cs, [], l, h => by
    have : l = cs := by cases cs <;> simpa [over, eq_comm] using h
    subst this; simp
  | [], v :: vs, l, h => by simp [over] at h
  | c :: cs, v :: vs, l, h => by
    simp only [over] at h
    split at h
    · rename_i hok
      split at h
      · rename_i m hm
        simp at h; subst h
        obtain ⟨h1, h2, h3, h5, h4⟩ := over_spec hm
        simp only [Bool.and_eq_true, Bool.or_eq_true, Bool.not_eq_true'] at hok
        refine ⟨by simp [h1], by simpa using h2, fun x hx => ?_, fun ha => ?_, fun j => ?_⟩
        · rcases List.mem_cons.1 hx with rfl | hx
          · exact hok.1
          · exact h3 x hx
        · simp only [List.all_cons, Bool.and_eq_true] at ha ⊢
          refine ⟨?_, h5 ha.2⟩
          rcases hok.2 with e | e
          · rw [ha.1] at e; cases e
          · exact e
        · cases j with
          | zero => simp
          | succ j => simp [h4 j]
      · simp at h
    · simp at h
theorem overAt_spec : ∀ {cs vs l : List AV} {o : Nat}, overAt cs o vs = some l → l.length = cs.length ∧ o + vs.length ≤ cs.length ∧ (∀ v ∈ vs, cellOK v = true) ∧ (cs.all u8V = true → l.all u8V = true) ∧ ∀ j, l[j]? = if o ≤ j ∧ j < o + vs.length then vs[j - o]? else cs[j]?
  | cs, vs, l, 0, h => by
    have h : over cs vs = some l := by cases cs <;> simpa [overAt] using h
    obtain ⟨h1, h2, h3, h5, h4⟩ := over_spec h
    exact ⟨h1, by omega, h3, h5, fun j => by rw [h4 j]; simp⟩
  | c :: cs, vs, l, o + 1, h => by
    simp only [overAt] at h
    split at h
    · rename_i m hm
      simp at h; subst h
      obtain ⟨h1, h2, h3, h5, h4⟩ := overAt_spec hm
      refine ⟨by simp [h1], by simp; omega, h3, fun ha => by
        simp only [List.all_cons, Bool.and_eq_true] at ha ⊢
        exact ⟨ha.1, h5 ha.2⟩, fun j => ?_⟩
      cases j with
      | zero => simp
      | succ j =>
        simp only [List.getElem?_cons_succ, h4 j]
        by_cases hj : o ≤ j ∧ j < o + vs.length
        · rw [if_pos hj, if_pos (by omega)]; congr 1; omega
        · rw [if_neg hj, if_neg (by omega)]
    · simp at h
  | [], vs, l, o + 1, h => by simp [overAt] at h

/-- storing cells, one by one -/
theorem run_storeCells' {k : Nat} {e : TypeId} {fz : Nat × Nat} : ∀ (xs : List Value) (w : World) (c : Array Value) (o i : Nat), w.heap[k]? = some (.cells c e fz) → o + i + xs.length ≤ c.size →
    (∀ j, j < c.size → ¬ (fz.1 ≤ j ∧ j < fz.2)) → (∀ x ∈ xs, x.oneCell' = true) →
    ∃ w' c', (storeCells ⟨k, o, none⟩ xs i).run P w = .ok () w' ∧ w'.heap.size = w.heap.size ∧ (∀ j, j ≠ k → w'.heap[j]? = w.heap[j]?) ∧ w'.heap[k]? = some (.cells c' e fz) ∧ c'.size = c.size ∧
      (∀ j, c'[j]? = if o + i ≤ j ∧ j < o + i + xs.length then xs[j - (o + i)]? else c[j]?) ∧ w'.os = w.os ∧ w'.tape = w.tape ∧ w'.output = w.output
  | [], w, c, o, i, hw, _, _, _ => ⟨w, c, by simp [storeCells], rfl, fun _ _ => rfl, hw, rfl, fun j => by simp; intro h1 h2; omega, rfl, rfl, rfl⟩
  | x :: xs, w, c, o, i, hw, hlen, hfz, hone => by
    have hlt : o + i < c.size := by simp at hlen; omega
    have hcell : w.cell? ⟨k, o + i, none⟩ = some c[o + i] := by rw [cell_of_row w k (o + i) c e fz hw]; simp [hlt]
    have hfr : w.frozen? ⟨k, o + i, none⟩ = false := by
      simp only [World.frozen?, hw]
      have := hfz (o + i) hlt
      rcases Nat.lt_or_ge (o + i) fz.1 with h1 | h1
      · simp; intro h2; omega
      · simp; intro _; have := hfz (o + i) hlt; omega
    have hstep : (store ⟨k, o + i, none⟩ x).run P w = .ok () (w.setCell ⟨k, o + i, none⟩ x) := by
      rw [run_store P w _ x .plain (hone x (by simp))]
      simp [hcell, hfr]
    have hw1 : (w.setCell ⟨k, o + i, none⟩ x).heap[k]? = some (.cells (c.setIfInBounds (o + i) x) e fz) := by
      simp only [World.setCell]
      rw [Array.getElem?_modify]
      simp [hw]
    obtain ⟨w', c', h1, h2, h3, h4, h5, h6, h7, h8, h9⟩ := run_storeCells' xs (w.setCell ⟨k, o + i, none⟩ x) (c.setIfInBounds (o + i) x) o (i + 1) hw1
      (by simp at hlen ⊢; omega) (by simpa using hfz) (fun y hy => hone y (by simp [hy]))
    refine ⟨w', c', ?_, by rw [h2]; simp, fun j hj => ?_, h4, by rw [h5]; simp, fun j => ?_, h7, h8, h9⟩
    · simp only [storeCells, Sem.run_bind, addr_add, hstep, Result.andThen_ok]
      exact h1
    · rw [h3 j hj]; exact heap_setCell_other w ⟨k, o + i, none⟩ j x hj
    · rw [h6 j]
      by_cases hj : j = o + i
      · subst hj
        rw [if_neg (by omega), if_pos (by simp)]
        simp [hlt]
      · by_cases hj2 : o + (i + 1) ≤ j ∧ j < o + (i + 1) + xs.length
        · rw [if_pos hj2, if_pos (by simp only [List.length_cons]; omega)]
          have : j - (o + i) = (j - (o + (i + 1))) + 1 := by omega
          rw [this]; first | rfl | simp
        · rw [if_neg hj2, if_neg (by simp only [List.length_cons]; omega), Array.getElem?_setIfInBounds, if_neg (by omega)]

theorem VRs.all {l : List AV} {m : List Value} (h : VRs ι l m) (hc : ∀ v ∈ l, cellOK v = true) : ∀ x ∈ m, x.oneCell' = true := by
  induction l generalizing m with
  | nil => cases h; simp
  | cons a l ih =>
    cases h with
    | cons h t =>
      intro x hx
      rcases List.mem_cons.1 hx with rfl | hx
      · exact h.cell (hc a (by simp))
      · exact ih t (fun v hv => hc v (by simp [hv])) x hx

/-- a row of a live block is written over -/
theorem Sim.write {B : Bd} {w0 : World} {h : HT} {nx b off : Nat} {p : Place} {vs new l : List AV} {xs : List Value} (S : Sim B w0 ι h nx w) (hb : hget h b = some (.cells vs)) (hp : ι b = some p)
    (hn : VRs ι new xs) (hl : overAt vs off new = some l) :
    ∃ w', (storeCells ⟨p.blk, p.base + off, none⟩ xs).run P w = .ok () w' ∧ Sim B w0 ι (hset h b (some (.cells l))) nx w' := by
  obtain ⟨q, hq, hr⟩ := S.objs1 hb hp
  rw [hp] at hq; cases hq
  obtain ⟨c, e, fz, h1, h2, h3, h4, h5⟩ := hr
  obtain ⟨l1, l2, l3, l5, l4⟩ := overAt_spec hl
  have h4w : fz.1 = fz.2 ∨ c.size ≤ fz.1 := h4.imp_right (·.1)
  have hlen := hn.length
  obtain ⟨w', c', r1, r2, r3, r4, r5, r6, r7, r8, r9⟩ := run_storeCells' (P := P) xs w c (p.base + off) 0 h1 (by omega) (fun o ho => by omega) (hn.all l3)
  refine ⟨w', r1, S.upd hb hp r2 r3 ⟨c', e, fz, r4, by rw [r5, h2], by omega, by rw [r5]; exact h4.imp_right fun q => ⟨q.1, l5 q.2⟩, fun i v hv => ?_⟩ r7 r8 r9⟩
  rw [l4 i] at hv
  rw [r6 (p.base + i)]
  split at hv
  · rename_i hi
    obtain ⟨y, hy, hv'⟩ := hn.get hv
    refine ⟨y, ?_, hv'⟩
    rw [if_pos (by omega)]
    rw [show p.base + i - (p.base + off + 0) = i - off by omega]; exact hy
  · rename_i hi
    obtain ⟨y, hy, hv'⟩ := h5 i v hv
    exact ⟨y, by rw [if_neg (by omega)]; exact hy, hv'⟩
end Go.Ev
