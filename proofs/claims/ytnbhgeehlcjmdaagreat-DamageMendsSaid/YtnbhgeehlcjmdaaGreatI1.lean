/- Proved here: slices.Insert of one number, not at the end, is what the reckoner says of it, whatever the capacity. -/
import Derived.Ground.Names2Prog
import Derived.Test.YtnbhgeehlcjmdaaGreatV31
import Derived.Shelf.Spec.SlicesInsertGrow
namespace Go.Proofs
open Go.Shelf
def Tryz.lays21_ren : Go.Shelf.Ren := ⟨fun | 21 => 357 | 27 => 372 | 28 => 373 | 35 => 386 | 39 => 278 | n => n, fun | 22 => 39 | 3 => 3 | 4 => 4 | 0 => 0 | n => n, fun | n => n⟩
theorem Tryz.lays21 : Go.Proofs.Lays2.n21 Tryz.prog Tryz.lays21_ren := {
  mixed := by kernel_rfl
  f21 := Tryz.func357.trans (congrArg some (by kernel_rfl))
  f27 := Tryz.func372.trans (congrArg some (by kernel_rfl))
  f28 := Tryz.func373.trans (congrArg some (by kernel_rfl))
  f35 := Tryz.func386.trans (congrArg some (by kernel_rfl))
  f39 := Tryz.func278.trans (congrArg some (by kernel_rfl))
  t0 := Tryz.underlying0
  a0 := Tryz.isAgg0
  z0 := Tryz.sizeOf0
  v0 := Tryz.zeroValue0
  t3 := Tryz.underlying3
  a3 := Tryz.isAgg3
  z3 := Tryz.sizeOf3
  v3 := Tryz.zeroValue3
  t4 := Tryz.underlying4
  a4 := Tryz.isAgg4
  z4 := Tryz.sizeOf4
  v4 := Tryz.zeroValue4
  t22 := Tryz.underlying39
  a22 := Tryz.isAgg39
  z22 := Tryz.sizeOf39
  v22 := Tryz.zeroValue39
  i3 := by kernel_rfl }
end Go.Proofs
namespace Go.Ev.F
open Go Go.Ev
variable {ι : Mp} {w : World}

/-- cells set one by one: the row behind it -/
theorem heap_setCells {b : Nat} {e : TypeId} {fz : Nat × Nat} : ∀ (vs : List Value) (o : Nat) (w : World) (c : Array Value), w.heap[b]? = some (.cells c e fz) → o + vs.length ≤ c.size →
    ∃ c', (w.setCells b o vs).heap[b]? = some (.cells c' e fz) ∧ c'.size = c.size ∧ ∀ j, c'[j]? = if o ≤ j ∧ j < o + vs.length then vs[j - o]? else c[j]?
  | [], o, w, c, h, _ => ⟨c, h, rfl, fun j => by rw [if_neg]; simp only [List.length_nil]; omega⟩
  | v :: vs, o, w, c, h, hl => by
    have h1 : (w.setCell ⟨b, o, none⟩ v).heap[b]? = some (.cells (c.setIfInBounds o v) e fz) := by
      simp only [World.setCell]
      rw [Array.getElem?_modify]
      simp [h]
    obtain ⟨c', g1, g2, g3⟩ := heap_setCells vs (o + 1) _ _ h1 (by simp at hl ⊢; omega)
    refine ⟨c', g1, by simpa using g2, fun j => ?_⟩
    rw [g3 j]
    simp only [List.length_cons] at hl ⊢
    by_cases e : j = o
    · subst e
      rw [if_neg (by omega), if_pos (by omega)]
      have : j < c.size := by omega
      simp [this]
    · by_cases hj : o + 1 ≤ j ∧ j < o + 1 + vs.length
      · rw [if_pos hj, if_pos (by omega), show j - o = (j - (o + 1)) + 1 by omega]
        simp
      · rw [if_neg hj, if_neg (by omega), Array.getElem?_setIfInBounds, if_neg (by omega)]
theorem heap_setCells_other {b : Nat} : ∀ (vs : List Value) (o : Nat) (w : World) (k : Nat), k ≠ b → (w.setCells b o vs).heap[k]? = w.heap[k]?
  | [], _, _, _, _ => rfl
  | v :: vs, o, w, k, hk => by
    rw [World.setCells, heap_setCells_other vs (o + 1) _ k hk]
    exact heap_setCell_other w ⟨b, o, none⟩ k v hk
theorem setCells_rest {b : Nat} : ∀ (vs : List Value) (o : Nat) (w : World), (w.setCells b o vs).heap.size = w.heap.size ∧ (w.setCells b o vs).os = w.os ∧ (w.setCells b o vs).tape = w.tape ∧ (w.setCells b o vs).output = w.output
  | [], _, _ => ⟨rfl, rfl, rfl, rfl⟩
  | v :: vs, o, w => by
    obtain ⟨h1, h2, h3, h4⟩ := setCells_rest (b := b) vs (o + 1) (w.setCell ⟨b, o, none⟩ v)
    rw [World.setCells]
    exact ⟨h1.trans (by simp [World.setCell]), h2, h3, h4⟩

/-- the cells of a row that is known -/
theorem row_cells {p : Place} {vs l : List AV} {off n : Nat} (hr : ObjR ι p w.heap[p.blk]? (.cells vs)) (hl : cut vs off n = some l) :
    ∃ ys : List Value, ys.length = n ∧ VRs ι l ys ∧ ∀ j v, ys[j]? = some v → w.cell? ⟨p.blk, p.base + off + j, none⟩ = some v := by
  obtain ⟨h1, rfl⟩ := cut_spec hl
  obtain ⟨c, e, fz, g1, g2, g3, g4, g5⟩ := hr
  have hlen : ((c.toList.drop (p.base + off)).take n).length = n := by simp; omega
  refine ⟨(c.toList.drop (p.base + off)).take n, hlen, VRs.mk ?_ fun i a ha => ?_, fun j v hj => ?_⟩
  · rw [hlen]; simp; omega
  · rw [List.getElem?_take] at ha ⊢
    split at ha
    · rename_i hi
      rw [if_pos hi]
      rw [List.getElem?_drop] at ha ⊢
      obtain ⟨y, hy, hv⟩ := g5 (off + i) a ha
      exact ⟨y, by rw [Array.getElem?_toList, show p.base + off + i = p.base + (off + i) by omega]; exact hy, hv⟩
    · cases ha
  · rw [List.getElem?_take] at hj
    split at hj
    · rw [List.getElem?_drop, Array.getElem?_toList] at hj
      simp only [World.cell?, g1]
      exact hj
    · cases hj
theorem row_facts {p : Place} {vs : List AV} (hr : ObjR ι p w.heap[p.blk]? (.cells vs)) : ∃ e, w.shape? p.blk = some (e, p.size) ∧ (∀ j, j < p.size → (w.cell? ⟨p.blk, j, none⟩).isSome = true) ∧ (∀ j, j < p.size → w.frozen? ⟨p.blk, j, none⟩ = false) ∧
    (vs.all u8V = false → ∀ j, w.frozen? ⟨p.blk, j, none⟩ = false) := by
  obtain ⟨c, e, fz, g1, g2, g3, g4, g5⟩ := hr
  refine ⟨e, by simp only [World.shape?, g1, g2], fun j hj => ?_, fun j hj => ?_, fun hn j => ?_⟩
  · simp only [World.cell?, g1]
    simp; omega
  · simp only [World.frozen?, g1]
    rcases g4 with e1 | ⟨e1, _⟩
    · obtain ⟨lo, hi⟩ := fz
      simp only at e1
      simp; omega
    · obtain ⟨lo, hi⟩ := fz
      simp only at e1
      simp; omega
  · simp only [World.frozen?, g1]
    rcases g4 with e1 | ⟨_, e1⟩
    · obtain ⟨lo, hi⟩ := fz
      simp only at e1
      simp; omega
    · rw [hn] at e1; cases e1

theorem callable357 : Callable 357 := ⟨Go.Proofs.Tryz.f357, Go.Proofs.Tryz.func357, by kernel_rfl, by kernel_rfl⟩
/-- one among the others -/
theorem ins_get {c : Array Value} {ys zs : List Value} {B i len : Nat} (hyl : ys.length = len) (hzl : zs.length = 1) (hi : i < len) (h1 : ∀ j, j < i → c[B + j]? = ys[j]?) (h2 : c[B + i]? = zs[0]?) (h3 : ∀ j, i < j → j < len + 1 → c[B + j]? = ys[j - 1]?)
    {j : Nat} {y : Value} (hy : (ys.take i ++ zs ++ ys.drop i)[j]? = some y) : c[B + j]? = some y := by
  have hlt : j < len + 1 := by
    have := (List.getElem?_eq_some_iff.1 hy).1
    simp at this; omega
  have ht : (ys.take i).length = i := by simp; omega
  rcases Nat.lt_trichotomy j i with h | h | h
  · rw [h1 j h]
    rw [List.getElem?_append_left (by simp; omega), List.getElem?_append_left (by omega), List.getElem?_take, if_pos h] at hy
    exact hy
  · subst h
    rw [h2]
    rw [List.getElem?_append_left (by simp; omega), List.getElem?_append_right (by omega), ht, Nat.sub_self] at hy
    exact hy
  · rw [h3 j h hlt]
    rw [List.getElem?_append_right (by simp; omega), List.getElem?_drop] at hy
    rw [← hy]
    congr 1
    simp only [List.length_append, ht, hzl]
    omega
theorem insert_spec (args : List AV) (h : HT) (nx : Nat) (q : AV × Ups × Nat) (hq : insertA h nx args = some q) : CallSpec 357 args h nx q.1 (upsH h q.2.1) q.2.2 := by
  unfold insertA at hq
  split at hq
  · rename_i b off len cap opn i b' off' len' c' o'
    split at hq
    · rename_i s v hs hv
      split at hq
      · rename_i hc
        obtain ⟨hi, h1, hbb, hmost, hop, hall⟩ := hc
        subst h1
        simp at hq; subst hq
        refine ⟨callable357, Nat.le_succ _, fun B w0 ι w vs S hhi hvs => ?_⟩
        dsimp only at hhi
        rw [callsIn_wide]
        obtain ⟨vs⟩ := vs
        simp only at hvs
        simp only [srcA] at hs hv
        rw [if_neg (by omega)] at hs hv
        cases hcs : cellsOf h b with
        | none => rw [hcs] at hs; cases hs
        | some cs =>
        rw [hcs] at hs
        cases hcv : cellsOf h b' with
        | none => rw [hcv] at hv; cases hv
        | some cv =>
        rw [hcv] at hv
        simp only [Nat.mul_one] at hs hv
        cases hvs with
        | @cons _ x1 _ _ hx1 ht =>
        cases ht with
        | @cons _ x2 _ _ hx2 ht =>
        cases ht with
        | @cons _ x3 _ _ hx3 ht =>
        cases ht
        cases hx2
        have hA : ∃ p c, ι b = some p ∧ x1 = .slice (some ⟨p.blk, p.base + off, none⟩) len c ∧ len ≤ c ∧ c ≤ 9223372036854775807 ∧ (c < len + 1 ∨ p.base + off + c ≤ p.size) := by
          cases hx1 with
          | slc _ _ _ hp =>
            rcases hop with e | ⟨_, e⟩
            · cases e
            · refine ⟨_, _, hp, rfl, by omega, by unfold most at hmost; omega, .inl (by omega)⟩
          | slo _ _ _ k o c hp g1 g2 g3 g4 g5 =>
            have hk : k = 1 := by rcases hop with e | ⟨e, _⟩ <;> omega
            subst hk
            have ho := g3 (by omega)
            subst ho
            exact ⟨_, c, hp, rfl, by omega, g5, .inr (by omega)⟩
        have hB : ∃ p c, ι b' = some p ∧ x3 = .slice (some ⟨p.blk, p.base + off', none⟩) 1 c := by
          cases hx3 with
          | slc _ _ _ hp => exact ⟨_, _, hp, rfl⟩
          | slo _ _ _ k o c hp g1 g2 g3 g4 g5 =>
            have ho := g3 (by omega)
            subst ho
            exact ⟨_, c, hp, rfl⟩
        obtain ⟨p, c, hp, rfl, hlc, hc63, hroom⟩ := hA
        obtain ⟨p', c3, hp', rfl⟩ := hB
        have hb := cellsOf_spec hcs
        have hb' := cellsOf_spec hcv
        have hr := S.objs b _ p hb hp
        have hr' := S.objs b' _ p' hb' hp'
        have hblk : p'.blk ≠ p.blk := fun e => hbb (S.inj b b' _ _ p p' hb hb' hp hp' e.symm)
        obtain ⟨ys, hyl, hys, hcy⟩ := row_cells hr hs
        obtain ⟨zs, hzl, hzs, hcz⟩ := row_cells hr' hv
        have hok : ∀ x ∈ s ++ v, cellOK x = true ∧ u8V x = false := fun x hx => by
          have := List.all_eq_true.1 hall x hx
          simpa using this
        have h1c : ∀ y ∈ ys, y.oneCell' = true := hys.all fun x hx => (hok x (by simp [hx])).1
        have h1v : ∀ y ∈ zs, y.oneCell' = true := hzs.all fun x hx => (hok x (by simp [hx])).1
        have hnot : ∀ {l m : List AV} {o n : Nat}, cut l o n = some m → 0 < n → (∀ x ∈ m, u8V x = false) → l.all u8V = false := fun {l m o n} hcut hn hm => by
          obtain ⟨k1, rfl⟩ := cut_spec hcut
          cases hb : l.all u8V with
          | false => rfl
          | true =>
            rw [List.all_eq_true] at hb
            have hlt : o < l.length := by omega
            have hmem : l[o] ∈ (l.drop o).take n := by
              refine List.mem_of_getElem? (i := 0) ?_
              rw [List.getElem?_take, if_pos hn, List.getElem?_drop]
              simp [hlt]
            have g1 := hm _ hmem
            rw [hb _ (List.getElem_mem hlt)] at g1
            cases g1
        have hlv : VRs ι (s.take i ++ (v ++ s.drop i)) (ys.take i ++ zs ++ ys.drop i) := by
          rw [← List.append_assoc]
          exact ((hys.take i).append hzs).append (hys.drop i)
        have hlvl : (s.take i ++ (v ++ s.drop i)).length = len + 1 := by
          have e1 := hys.length
          have e2 := hzs.length
          simp; omega
        have hyd : (ys.drop i).length = len - i := by simp [hyl]
        rcases Nat.lt_or_ge c (len + 1) with hlt | hge
        · -- no room
          have hcall := Go.Proofs.Any2.slices_Insert_int_grow Go.Proofs.Tryz.lays21 p.blk (p.base + off) len c i p'.blk (p'.base + off') 1 c3 ys zs w hi (by omega) hlc hlt (by unfold most at hmost; omega) hyl hzl hcy hcz h1c h1v
          refine Calls.mono (show Calls P 357 _ w _ from hcall) ?_
          rintro e w' ⟨rfl, rfl⟩
          generalize hG : grownCap w (len + 1) c (Go.Proofs.Tryz.lays21_ren.t 3) = G
          have hG1 : len + 1 ≤ G := by rw [← hG]; exact grownCap_ge w _ _ _
          have hG2 : G ≤ 9223372036854775807 := by
            have := grownCap_le_maxLen w (len + 1) c (Go.Proofs.Tryz.lays21_ren.t 3) (by unfold maxLen; unfold most at hmost; omega)
            rw [hG] at this
            unfold maxLen at this
            exact this
          generalize hrow : (ys.take i).toArray ++ Builtin.zeroCells (Value.int .i64 0).cells (len + 1 - i) ++ Builtin.zeroCells (Value.int .i64 0).cells (G - (len + 1)) = row
          have hrl : row.size = G := by
            rw [← hrow]
            simp [Builtin.zeroCells, Value.cells, hyl]
            omega
          generalize hW1 : (w.alloc (.cells row (Go.Proofs.Tryz.lays21_ren.t 3))).drew = W1
          have hN : W1.heap[w.heap.size]? = some (.cells row (Go.Proofs.Tryz.lays21_ren.t 3) (0, 0)) := by rw [← hW1]; show (w.heap.push _)[w.heap.size]? = _; simp
          obtain ⟨c1, a1, a2, a3⟩ := heap_setCells zs i W1 row hN (by omega)
          have a1' : (W1.setCells w.heap.size i zs).drew.heap[w.heap.size]? = some (.cells c1 (Go.Proofs.Tryz.lays21_ren.t 3) (0, 0)) := a1
          obtain ⟨c2, b1, b2, b3⟩ := heap_setCells (ys.drop i) (i + 1) _ c1 a1' (by omega)
          generalize hW2 : (W1.setCells w.heap.size i zs).drew.setCells w.heap.size (i + 1) (ys.drop i) = W2 at b1
          have hsz1 : W1.heap.size = w.heap.size + 1 := by rw [← hW1]; show (w.heap.push _).size = _; simp
          have r1 := setCells_rest (b := w.heap.size) zs i W1
          have r2 := setCells_rest (b := w.heap.size) (ys.drop i) (i + 1) (W1.setCells w.heap.size i zs).drew
          rw [hW2] at r2
          have hWo : W1.os = w.os ∧ W1.tape = w.tape ∧ W1.output = w.output := by rw [← hW1]; exact ⟨rfl, rfl, rfl⟩
          have hid : ι nx = none := S.fresh nx (Nat.le_refl _) (by omega)
          refine ⟨_, ι.put nx ⟨w.heap.size, 0, G⟩, rfl, Mp.up.put hid (Nat.lt_succ_self _), .slo (p := ⟨w.heap.size, 0, G⟩) 0 _ _ 1 0 G (Mp.put_same ..) (Nat.le_refl _) hG1 (fun _ => rfl) (by simp only; omega) hG2, ?_⟩
          refine (S.kill b).new hhi (by rw [r2.1]; show _ < (W1.setCells w.heap.size i zs).heap.size; rw [r1.1, hsz1]; omega) (fun k hk => ?_) ?_ (r2.2.1.trans (r1.2.1.trans hWo.1)) (r2.2.2.1.trans (r1.2.2.1.trans hWo.2.1)) (r2.2.2.2.trans (r1.2.2.2.trans hWo.2.2))
          · rw [← hW2, heap_setCells_other _ _ _ k (by omega)]
            show (W1.setCells w.heap.size i zs).heap[k]? = _
            rw [heap_setCells_other _ _ _ k (by omega), ← hW1]
            show (w.heap.push _)[k]? = _
            simp [Array.getElem?_push]; omega
          · rw [b1]
            refine ⟨c2, _, (0, 0), rfl, by rw [b2, a2, hrl], by simp only [hlvl]; omega, .inl rfl, fun j x hj => ?_⟩
            obtain ⟨y, hy, hvr⟩ := hlv.get hj
            refine ⟨y, ins_get (B := 0) hyl hzl hi (fun j hj => ?_) ?_ (fun j hj hj2 => ?_) hy, hvr.mono (Mp.put_le hid)⟩
            · rw [Nat.zero_add, b3, if_neg (by omega), a3, if_neg (by omega), ← hrow]
              rw [Array.getElem?_append_left (by simp [Builtin.zeroCells, Value.cells, hyl]; omega), Array.getElem?_append_left (by simp [hyl]; omega)]
              simp [hj]
            · rw [Nat.zero_add, b3, if_neg (by omega), a3, if_pos (by omega), Nat.sub_self]
            · rw [Nat.zero_add, b3, if_pos (by omega), List.getElem?_drop]
              congr 1; omega
        · -- there is room
          have hps : p.base + off + c ≤ p.size := by rcases hroom with e | e <;> omega
          obtain ⟨eB, f1, f2, f3, f4⟩ := row_facts hr
          obtain ⟨eA, g1, g2, g3, g4⟩ := row_facts hr'
          have hfree := g4 (hnot hv (by omega) fun x hx => (hok x (by simp [hx])).2)
          have hcall := Go.Proofs.Any2.slices_Insert_int_shift Go.Proofs.Tryz.lays21 p.blk (p.base + off) len c i p'.blk (p'.base + off') 1 c3 ys zs w hi (by omega) hge hc63 hblk hyl hzl hcy (fun j hj => f2 _ (by omega)) (fun j hj => f3 _ (by omega)) hcz h1c h1v
            eA eB p'.size p.size g1 f1 (by omega) (hfree _) (hfree _)
          refine Calls.mono (show Calls P 357 _ w _ from hcall) ?_
          rintro e w' ⟨rfl, rfl⟩
          have hr0 := hr
          obtain ⟨c0, e0, fz, k1, k2, k3, k4, k5⟩ := hr
          have k1' : w.drew.heap[p.blk]? = some (.cells c0 e0 fz) := k1
          obtain ⟨c1, a1, a2, a3⟩ := heap_setCells (ys.drop i) (p.base + off + (i + 1)) w.drew c0 k1' (by omega)
          obtain ⟨c2, b1, b2, b3⟩ := heap_setCells zs (p.base + off + i) _ c1 a1 (by omega)
          generalize hW2 : (w.drew.setCells p.blk (p.base + off + (i + 1)) (ys.drop i)).setCells p.blk (p.base + off + i) zs = W2 at b1
          have r1 := setCells_rest (b := p.blk) (ys.drop i) (p.base + off + (i + 1)) w.drew
          have r2 := setCells_rest (b := p.blk) zs (p.base + off + i) (w.drew.setCells p.blk (p.base + off + (i + 1)) (ys.drop i))
          rw [hW2] at r2
          have hid : ι nx = none := S.fresh nx (Nat.le_refl _) (by omega)
          have hfz : fz.1 = fz.2 := by
            rcases k4 with e | ⟨_, e⟩
            · exact e
            · rw [hnot hs (by omega) fun x hx => (hok x (by simp [hx])).2] at e; cases e
          have old : ∀ j, j < len → c0[p.base + off + j]? = ys[j]? := fun j hj => by
            have hy : ys[j]? = some ys[j] := by simp [hyl, hj]
            have := hcy j _ hy
            simp only [World.cell?, k1] at this
            rw [hy]
            exact this
          refine ⟨_, ι.put nx ⟨p.blk, p.base + off, p.size⟩, rfl, Mp.up.put hid (Nat.lt_succ_self _), .slo (p := ⟨p.blk, p.base + off, p.size⟩) 0 _ _ 1 (p.base + off) c (Mp.put_same ..) (Nat.le_refl _) hge (fun _ => rfl) (by simp only; omega) hc63, ?_⟩
          refine S.move hhi hb hp (r2.1.trans r1.1) (fun k hk => ?_) ?_ (r2.2.1.trans r1.2.1) (r2.2.2.1.trans r1.2.2.1) (r2.2.2.2.trans r1.2.2.2)
          · rw [← hW2, heap_setCells_other _ _ _ k hk, heap_setCells_other _ _ _ k hk]
            rfl
          · rw [b1]
            refine ⟨c2, e0, fz, rfl, by rw [b2, a2, k2], by simp only [hlvl]; omega, .inl hfz, fun j x hj => ?_⟩
            obtain ⟨y, hy, hvr⟩ := hlv.get hj
            refine ⟨y, ins_get (B := p.base + off) hyl hzl hi (fun j hj => ?_) ?_ (fun j hj hj2 => ?_) hy, hvr.mono (Mp.put_le hid)⟩
            · rw [b3, if_neg (by omega), a3, if_neg (by omega)]
              exact old j (by omega)
            · rw [b3, if_pos (by omega), Nat.sub_self]
            · rw [b3, if_neg (by omega), a3, if_pos (by omega), List.getElem?_drop]
              congr 1; omega
      · cases hq
    · cases hq
  · cases hq
end Go.Ev.F
