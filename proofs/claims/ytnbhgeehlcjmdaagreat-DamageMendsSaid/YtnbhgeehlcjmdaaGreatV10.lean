/- Proved here: what the reckoner says of conversions and of the small builtin functions is what the model does. -/
import Derived.Test.YtnbhgeehlcjmdaaGreatV9
namespace Go.Ev
open Go
variable {P : Program} {w w0 : World} {ι : Mp} {B : Bd} {h : HT} {nx : Nat} {ρ : Env} {ρc : Operand → Value} {o : Oper} {r : AV × Ups × Nat}

/-- a block is touched, and what is known of it stays -/
theorem Sim.touch {w' : World} (S : Sim B w0 ι h nx w) {k : Nat} (hk : B k) (hs : w'.heap.size = w.heap.size) (ho : ∀ j, j ≠ k → w'.heap[j]? = w.heap[j]?)
    (hr : ∀ (c : Nat) (p : Place) (x : Obj), hget h c = some x → ι c = some p → p.blk = k → ObjR ι p w.heap[k]? x → ObjR ι p w'.heap[k]? x) (h2 : w'.os = w.os) (h3 : w'.tape = w.tape) (h4 : w'.output = w.output) : Sim B w0 ι h nx w' := by
  refine ⟨fun b x p hb hp => ?_, S.dom, S.inj, S.fresh, S.mine, fun j hj => ?_, S.newB, by rw [hs]; exact S.size, h2.trans S.os, h3.trans S.tape, h4.trans S.output⟩
  · have hrr := S.objs b x p hb hp
    by_cases e : p.blk = k
    · rw [e] at hrr ⊢; exact hr b p x hb hp e hrr
    · rw [ho _ e]; exact hrr
  · rw [ho j (fun e => hj (e ▸ hk))]; exact S.old j hj

/-- the first cells of a slice -/
theorem srcA_slice (S : Sim B w0 ι h nx w) {size n b off len cap opn : Nat} {l : List AV} {a : Addr} {c : Nat} (hv : VR ι (.sl b off len cap opn) (.slice (some a) len c)) (hn : n ≤ len) (hl : srcA h size n (.sl b off len cap opn) = some l) :
    ∃ xs : Array Value, (∀ w1 : World, w1.heap = w.heap → (loadCells a (n * size)).run P w1 = .ok xs w1) ∧ VRs ι l xs.toList ∧ l.length = n * size := by
  simp only [srcA] at hl
  split at hl
  · rename_i h0
    simp at hl; subst hl
    exact ⟨#[], fun w1 _ => by rw [h0]; exact run_loadCells_list (P := P) w1 a [] (by simp), .nil, h0.symm⟩
  · rename_i h0
    have hn0 : 0 < n := by
      rcases Nat.eq_zero_or_pos n with e | e
      · subst e; simp at h0
      · exact e
    split at hl
    · rename_i cs hcs
      have haddr : ∃ p, ι b = some p ∧ a = ⟨p.blk, p.base + off, none⟩ := by
        cases hv with
        | slc _ _ _ hp => exact ⟨_, hp, rfl⟩
        | slo _ _ _ k o' c hp h1 h2 h3 h4 h5 => exact ⟨_, hp, by rw [h3 (by omega)]⟩
      obtain ⟨p, hp, rfl⟩ := haddr
      obtain ⟨q, hq, hob⟩ := S.objs1 (cellsOf_spec hcs) hp
      rw [hp] at hq; cases hq
      obtain ⟨xs, hxs, hvs⟩ := run_cells' (P := P) (w := w) hob hl
      refine ⟨xs, hxs, hvs, ?_⟩
      · obtain ⟨hle, rfl⟩ := cut_spec hl
        simp; omega
    · simp at hl
/-- the first cells of anything that has such -/
theorem srcA_spec (S : Sim B w0 ι h nx w) {size n : Nat} {x : AV} {v : Value} {l : List AV} (hv : VR ι x v) {m : Nat} (hm : lenA x = some m) (hn : n ≤ m) (hl : srcA h size n x = some l) :
    ∃ xs : Array Value, (∀ w1 : World, w1.heap = w.heap → (Builtin.firstCells size n v).run P w1 = .ok xs w1) ∧ VRs ι l xs.toList := by
  cases x <;> simp only [lenA] at hm <;> try (simp at hm; done)
  · rename_i s
    cases hv with
    | str s =>
      simp only [srcA] at hl
      split at hl
      · rename_i hle
        replace hle := hle.2
        simp at hl; subst hl
        refine ⟨_, fun w1 _ => by simp only [Builtin.firstCells, Sem.run_pure]; rfl, ?_⟩
        refine VRs.mk (by simp) fun i a ha => ?_
        have hi : i < n := by
          have := (List.getElem?_eq_some_iff.1 ha).1
          simp at this; omega
        rw [Array.length_toList] at hle
        have hi2 : i < s.data.size := by omega
        rw [List.getElem?_take, if_pos hi, List.getElem?_map] at ha
        obtain ⟨c, hc, rfl⟩ := Option.map_eq_some_iff.1 ha
        refine ⟨.int .u8 (c.toNat : Int), ?_, .int _ _⟩
        rw [Array.getElem?_toList] at hc
        have he : (s.extract 0 n).data[i]? = some c := by
          rw [ByteArray.data_extract, Array.getElem?_extract]
          have : i < min n s.data.size - 0 := by omega
          rw [if_pos this, Nat.zero_add]; exact hc
        rw [Array.getElem?_toList, Array.getElem?_map, he]; rfl
      · simp at hl
  · cases hv
    simp only [srcA] at hl
    split at hl
    · simp at hl; subst hl
      exact ⟨#[], fun w1 _ => by simp [Builtin.firstCells], .nil⟩
    · simp at hl
  · rename_i b off len cap opn
    have hv' := hv
    cases hv' with
    | slc _ _ _ hp =>
      simp at hm; subst hm
      obtain ⟨xs, h1, h2, _⟩ := srcA_slice (P := P) S hv hn hl
      exact ⟨xs, fun w1 hw1 => by simp only [Builtin.firstCells]; exact h1 w1 hw1, h2⟩
    | slo _ _ _ k o' c hp _ _ _ _ _ =>
      simp at hm; subst hm
      obtain ⟨xs, h1, h2, _⟩ := srcA_slice (P := P) S hv hn hl
      exact ⟨xs, fun w1 hw1 => by simp only [Builtin.firstCells]; exact h1 w1 hw1, h2⟩
theorem srcA_len {size n : Nat} {x : AV} {l : List AV} (hl : srcA h size n x = some l) : l.length = n * size := by
  unfold srcA at hl
  split at hl
  · split at hl
    · rename_i e; simp at hl; subst hl; simp [e]
    · simp at hl
  · split at hl
    · rename_i e; simp at hl; subst hl; simp [e]
    · split at hl
      · obtain ⟨hle, rfl⟩ := cut_spec hl
        simp; omega
      · simp at hl
  · split at hl
    · rename_i e; simp at hl; subst hl; simp [e.1]; exact Nat.min_eq_left e.2
    · simp at hl
  · simp at hl
theorem lenA_spec {x : AV} {v : Value} {m : Nat} (hv : VR ι x v) (hm : lenA x = some m) : (∀ w1 : World, (Builtin.lenOf v).run P w1 = .ok m w1) := by
  intro w1
  cases hv <;> simp [lenA] at hm <;> subst hm <;> simp [Builtin.lenOf]

/-! conversions -/
theorem isU8_spec {e : TypeId} (h : isU8 P e = true) : P.underlying e = some (.int .u8) := by
  unfold isU8 at h
  split at h
  · assumption
  · simp at h
theorem bytesA_spec : ∀ {cs : List AV} {l : List UInt8}, bytesA cs = some l → ∃ ns : List Int, cs = ns.map (fun n => AV.int .u8 n) ∧ l = ns.map (fun n => UInt8.ofNat n.toNat)
  | [], l, h => by simp [bytesA] at h; subst h; exact ⟨[], rfl, rfl⟩
  | v :: r, l, h => by
    cases v with
    | int k n =>
      cases k <;> simp only [bytesA] at h <;> try (simp at h; done)
      split at h
      · rename_i m hm
        simp at h; subst h
        obtain ⟨ns, h1, h2⟩ := bytesA_spec hm
        exact ⟨n :: ns, by rw [h1]; rfl, by rw [h2]; rfl⟩
      · simp at h
    | _ => simp [bytesA] at h
theorem VRs.ints : ∀ {ns : List Int} {m : List Value}, VRs ι (ns.map (fun n => AV.int .u8 n)) m → m = ns.map (Value.int .u8)
  | [], _, .nil => rfl
  | n :: ns, _, .cons hv ht => by cases hv; rw [VRs.ints ht]; rfl
theorem push_fold (ns : List Int) (s : ByteArray) : (ns.foldl (fun r n => r.push (UInt8.ofNat n.toNat)) s).data.toList = s.data.toList ++ ns.map (fun n => UInt8.ofNat n.toNat) := by
  induction ns generalizing s with
  | nil => simp
  | cons n ns ih => simp only [List.foldl_cons, ih, List.map_cons]; simp [ByteArray.push]

/-- the mark behind a row that a string's bytes may stand in -/
theorem run_mark' {k o' : Nat} {c : Array Value} {e : TypeId} {fz : Nat × Nat} (hw : w.heap[k]? = some (.cells c e fz)) :
    (markStringish ⟨k, o', none⟩).run P w = .ok () (w.freeze ⟨k, c.size, none⟩ 1) := by
  have : w.shape? k = some (e, c.size) := by simp [World.shape?, hw]
  simp only [markStringish, Sem.run_bind, run_shape, this, Result.andThen_ok, run_freeze]
theorem freeze_at {k : Nat} {c : Array Value} {e : TypeId} {fz : Nat × Nat} (hw : w.heap[k]? = some (.cells c e fz)) (hf : fz.1 = fz.2 ∨ c.size ≤ fz.1) :
    ∃ fz' : Nat × Nat, (w.freeze ⟨k, c.size, none⟩ 1).heap[k]? = some (.cells c e fz') ∧ (fz'.1 = fz'.2 ∨ c.size ≤ fz'.1) := by
  obtain ⟨lo, hi⟩ := fz
  refine ⟨_, by simp only [World.freeze, Nat.one_ne_zero, if_false]; rw [Array.getElem?_modify]; simp only [if_true, hw, Option.map_some]; rfl, ?_⟩
  simp only at hf ⊢
  split
  · exact .inr (Nat.le_refl _)
  · rename_i hne
    simp at hne
    refine .inr ?_
    rcases hf with e | e
    · exact absurd e hne
    · exact Nat.le_min.2 ⟨e, Nat.le_refl _⟩
theorem freeze_other {k j : Nat} {a : Addr} {n : Nat} (ha : a.block = k) (hj : j ≠ k) : (w.freeze a n).heap[j]? = w.heap[j]? := by
  unfold World.freeze
  split
  · rfl
  · simp only; rw [Array.getElem?_modify, if_neg (by rw [ha]; exact fun e => hj e.symm)]
theorem freeze_size {a : Addr} {n : Nat} : (w.freeze a n).heap.size = w.heap.size := by
  unfold World.freeze
  split <;> simp
theorem freeze_os {a : Addr} {n : Nat} : (w.freeze a n).os = w.os ∧ (w.freeze a n).tape = w.tape ∧ (w.freeze a n).output = w.output := by
  unfold World.freeze
  split <;> simp
theorem byteOf_VRs (s : ByteArray) : VRs ι (s.data.toList.map byteOf) (s.data.map fun (b : UInt8) => Value.int .u8 (b.toNat : Int)).toList := by
  rw [Array.toList_map]
  generalize s.data.toList = l
  induction l with
  | nil => exact .nil
  | cons c l ih => exact .cons (.int _ _) ih

theorem bytes_all (l : List UInt8) : (l.map byteOf).all u8V = true := by
  rw [List.all_eq_true]
  intro x hx
  obtain ⟨c, _, rfl⟩ := List.mem_map.1 hx
  rfl
/-- a new row, larger than what is known of it -/
theorem Sim.newRow (S : Sim B w0 ι h nx w) (hnx : nx + 1 ≤ B.hi) {c : Array Value} {e : TypeId} {fz : Nat × Nat} {vs : List AV} {w' : World} (hv : VRs ι vs (c.toList.take vs.length)) (hle : vs.length ≤ c.size)
    (hs : w'.heap.size = w.heap.size + 1) (ho : ∀ k, k < w.heap.size → w'.heap[k]? = w.heap[k]?) (h1 : w'.heap[w.heap.size]? = some (.cells c e fz)) (hf : fz.1 = fz.2 ∨ (c.size ≤ fz.1 ∧ vs.all u8V = true))
    (h2 : w'.os = w.os) (h3 : w'.tape = w.tape) (h4 : w'.output = w.output) :
    ∃ ι', Mp.up (nx + 1) ι ι' ∧ ι' nx = some ⟨w.heap.size, 0, c.size⟩ ∧ Sim B w0 ι' (hset h nx (some (.cells vs))) (nx + 1) w' := by
  have hle' : ι.le (ι.put nx ⟨w.heap.size, 0, c.size⟩) := Mp.put_le (S.fresh nx (Nat.le_refl _) hnx)
  refine ⟨_, Mp.up.put (S.fresh nx (Nat.le_refl _) hnx) (Nat.lt_succ_self _), Mp.put_same .., S.new hnx (by omega) ho ⟨c, e, fz, h1, rfl, by simpa using hle, hf, fun i v hi => ?_⟩ h2 h3 h4⟩
  obtain ⟨x, hx, hr⟩ := hv.get hi
  rw [List.getElem?_take] at hx
  split at hx
  · exact ⟨x, by simpa using hx, hr.mono hle'⟩
  · simp at hx

theorem cut_append (need old : Nat) (e : TypeId) (t : Nat) : need ≤ (Question.appendCap need old e).cut t := by simp [Question.cut]
theorem cut_append_le (need old : Nat) (e : TypeId) (t : Nat) (h : need ≤ 9223372036854775807) : (Question.appendCap need old e).cut t ≤ 9223372036854775807 := by
  have hlt := Nat.mod_lt t (show 0 < 2 ^ 63 - need by omega)
  simp only [Question.cut]
  omega

theorem ok_conv (S : Sim B w0 ι h nx w) (E : ER1 ι ρ ρc) {src dst : TypeId} {x : Operand} (ho : o.op = .convert src dst x) (hr : oConv P ρ src dst x h nx = some r) : OpOK P ρc o B w0 ι h w r := by
  intro hh
  unfold oConv at hr
  split at hr
  · rename_i a ha
    replace ha := E x _ ha
    generalize hx : ρc x = v at ha
    have ex : execOp ρc o = (convert src dst v >>= fun v => pure (Next.value v)) := by simp only [execOp, ho, hx]
    have same : ∀ {q : AV} {y : Value}, VR ι q y → (convert src dst v).run P w = .ok y w → (q, ([] : Ups), nx).2.2 ≤ B.hi → ∃ ι' x w', ((execOp ρc o).run P w = .ok (.value x) w' ∨ ((execOp ρc o).run P w = .ok .skip w' ∧ x = undef)) ∧ Mp.up nx ι ι' ∧ VR ι' q x ∧ Sim B w0 ι' h nx w' ∧ (Quiet P o.op → ([] : Ups) = [] → ι' = ι ∧ w' = w) := fun hq hy =>
      OpOK.same S hq (by rw [ex, Sem.run_bind, hy]; rfl)
    unfold convA at hr
    split at hr
    · rename_i d k k' n hs hd
      simp at hr; subst hr
      cases ha
      refine same (.int _ _) ?_ hh
      simp only [convert, Sem.run_bind, run_underlying' hs, run_underlying' hd, Result.andThen_ok, Conv.intToInt, Sem.run_pure]
    · rename_i d e s hs hd
      split at hr
      · rename_i hc
        simp at hr; subst hr
        have hu := isU8_spec hc.1
        cases ha with
        | str s =>
          have hcap := cut_append s.size 0 e (w.tape w.drawn (.appendCap s.size 0 e))
          have hcap2 := cut_append_le s.size 0 e (w.tape w.drawn (.appendCap s.size 0 e)) (by have h9 := hc.2; unfold most at h9; simp at h9; omega)
          generalize hcp : (Question.appendCap s.size 0 e).cut (w.tape w.drawn (.appendCap s.size 0 e)) = cap at hcap hcap2
          have hcsz : ((s.data.map fun (b : UInt8) => Value.int .u8 (b.toNat : Int)) ++ Array.replicate (cap - s.size) (Value.int .u8 0)).size = cap := by
            simp; omega
          have hlook : ({ w with drawn := w.drawn + 1, heap := w.heap.push (.cells ((s.data.map fun (b : UInt8) => Value.int .u8 (b.toNat : Int)) ++ Array.replicate (cap - s.size) (Value.int .u8 0)) e (0, 0)) } : World).heap[w.heap.size]? =
              some (.cells ((s.data.map fun (b : UInt8) => Value.int .u8 (b.toNat : Int)) ++ Array.replicate (cap - s.size) (Value.int .u8 0)) e (0, 0)) := by simp
          obtain ⟨fz', f1, f2⟩ := freeze_at hlook (.inl rfl)
          have hm := run_mark' (P := P) (o' := 0) hlook
          have hos := freeze_os (w := { w with drawn := w.drawn + 1, heap := w.heap.push (.cells ((s.data.map fun (b : UInt8) => Value.int .u8 (b.toNat : Int)) ++ Array.replicate (cap - s.size) (Value.int .u8 0)) e (0, 0)) }) (a := ⟨w.heap.size, ((s.data.map fun (b : UInt8) => Value.int .u8 (b.toNat : Int)) ++ Array.replicate (cap - s.size) (Value.int .u8 0)).size, none⟩) (n := 1)
          obtain ⟨ι', hle, hp, S'⟩ := S.newRow hh (vs := s.data.toList.map byteOf) (e := e) (c := (s.data.map fun (b : UInt8) => Value.int .u8 (b.toNat : Int)) ++ Array.replicate (cap - s.size) (Value.int .u8 0))
            (by
              have := byteOf_VRs (ι := ι) s
              rw [Array.toList_append, List.take_append_of_le_length (by simp)]
              rw [List.take_of_length_le (by simp)]
              exact this)
            (by simp) (by rw [freeze_size]; simp) (fun k hk => by rw [freeze_other rfl (by simp only; omega)]; simp [Array.getElem?_push]; omega) f1 (f2.imp_right fun q => ⟨q, bytes_all _⟩) hos.1 hos.2.1 hos.2.2
          refine ⟨ι', _, _, .inl ?_, hle, .slo 0 s.data.toList.length s.data.toList.length 1 0 cap hp (Nat.le_refl _) (by simpa using hcap) (fun _ => rfl) (by simp only; omega) hcap2, S', fun _ e => by simp at e⟩
          rw [ex, Sem.run_bind]
          simp only [convert, Sem.run_bind, run_underlying' hs, run_underlying' hd, run_underlying' hu, Result.andThen_ok, Conv.stringToBytes, run_choose, Question.forced, Bool.false_eq_true, if_false, newRow, run_newObj, Sem.run_pure, hcp, hm]
          simp
      · simp at hr
    · rename_i d e b off len cap opn hs hd
      split at hr
      · rename_i hc
        simp at hr; subst hr
        obtain ⟨h1, h2, h3⟩ := hc
        subst h1
        have hu := isU8_spec h2
        have hex : ∃ cs, cellsOf h b = some cs ∧ cs.all u8V = true := by
          unfold allU8 at h3
          cases hcs : cellsOf h b with
          | none => rw [hcs] at h3; cases h3
          | some cs => rw [hcs] at h3; exact ⟨cs, rfl, h3⟩
        obtain ⟨cs, hcs, hall⟩ := hex
        have hb := cellsOf_spec hcs
        have haddr : ∃ p o' c', ι b = some p ∧ v = .slice (some ⟨p.blk, o', none⟩) len c' := by
          cases ha with
          | slc _ _ _ hp => exact ⟨_, _, _, hp, rfl⟩
          | slo _ _ _ k o' c hp h1 h2 h3 h4 h5 => exact ⟨_, _, _, hp, rfl⟩
        obtain ⟨p, o', c', hp, rfl⟩ := haddr
        obtain ⟨q, hq, hob⟩ := S.objs1 hb hp
        rw [hp] at hq; cases hq
        obtain ⟨c, e', fz, g1, g2, g3, g4, g5⟩ := hob
        obtain ⟨fz', f1, f2⟩ := freeze_at g1 (g4.imp_right (·.1))
        have hm := run_mark' (P := P) (o' := o') g1
        have hos := freeze_os (w := w) (a := ⟨p.blk, c.size, none⟩) (n := 1)
        have S' : Sim B w0 ι h nx (w.freeze ⟨p.blk, c.size, none⟩ 1) := by
          refine S.touch (S.mine b _ p hb hp) freeze_size (fun j hj => freeze_other rfl hj) ?_ hos.1 hos.2.1 hos.2.2
          intro b' p' x hb' hp' hpb hx
          have := S.inj b' b x _ p' p hb' hb hp' hp hpb
          subst this
          rw [hb] at hb'; cases hb'
          obtain ⟨c2, e2, fz2, k1, k2, k3, k4, k5⟩ := hx
          rw [g1] at k1; cases k1
          exact ⟨c, e', fz', f1, k2, k3, f2.imp_right fun q => ⟨q, hall⟩, k5⟩
        refine ⟨ι, _, _, .inl ?_, Mp.up.refl _ _, ha, S', fun hq _ => absurd hd (hq _ _ _ _ ho)⟩
        rw [ex, Sem.run_bind]
        rw [hs] at hd; cases hd
        simp only [convert, Sem.run_bind, run_underlying' hs, run_underlying' hu, Result.andThen_ok, beq_self_eq_true, hm, Sem.run_pure]
      · simp at hr
    · simp at hr
    · rename_i y _ _ _ e hs hd hne
      split at hr
      · rename_i hc
        have hu := isU8_spec hc
        split at hr
        · rename_i n hn
          split at hr
          · rename_i cs hcs
            split at hr
            · rename_i l hl
              simp at hr; subst hr
              obtain ⟨ns, n1, n2⟩ := bytesA_spec hl
              subst n1
              cases y <;> simp only [lenA] at hn <;> try (simp at hn; done)
              · exact absurd rfl (hne _)
              · simp at hn; subst hn
                simp [srcA] at hcs
                cases ns with
                | cons => simp at hcs
                | nil =>
                  subst n2
                  cases ha
                  refine same (.str ByteArray.empty) ?_ hh
                  simp only [convert, Sem.run_bind, run_underlying' hs, run_underlying' hd, run_underlying' hu, Result.andThen_ok, Conv.bytesToString, Sem.run_pure]
              · rename_i b off len cap opn
                simp at hn; subst hn
                have haddr : ∃ a' c', v = .slice (some a') len c' := by
                  cases ha with
                  | slc _ _ _ hp => exact ⟨_, _, rfl⟩
                  | slo _ _ _ k o' c hp h1 h2 h3 h4 h5 => exact ⟨_, _, rfl⟩
                obtain ⟨a', c', rfl⟩ := haddr
                obtain ⟨xs, x1, x2, _⟩ := srcA_slice (P := P) S ha (Nat.le_refl _) hcs
                have x3 := VRs.ints x2
                have hload := x1 w rfl
                rw [Nat.mul_one] at hload
                have hxs : xs = (ns.map (Value.int .u8)).toArray := by rw [← x3]
                rw [hxs] at hload
                have hvr : VR ι (.str l) (.string (ns.foldl (fun r n => r.push (UInt8.ofNat n.toNat)) ByteArray.empty)) := by
                  have := VR.str (ι := ι) (ns.foldl (fun r n => r.push (UInt8.ofNat n.toNat)) ByteArray.empty)
                  rw [push_fold] at this
                  rw [n2]; simpa using this
                refine same hvr ?_ hh
                rw [run_convert_bytes_string w src dst e (some a') len c' hs hu hd]
                exact run_bytesToString w a' len c' ns hload
            · simp at hr
          · simp at hr
        · simp at hr
      · simp at hr
    · simp at hr
  · simp at hr
end Go.Ev
