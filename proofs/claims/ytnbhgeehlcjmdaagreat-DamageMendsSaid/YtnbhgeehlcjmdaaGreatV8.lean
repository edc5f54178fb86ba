/- Proved here: what the reckoner says of operators, conversions, slices of slices and indices is what the model does. -/
import Derived.Test.YtnbhgeehlcjmdaaGreatV7
import Derived.Laws.Strings
import Derived.Laws.BytesString
namespace Go.Ev
open Go
variable {P : Program} {w w0 : World} {ι : Mp} {B : Bd} {h : HT} {nx : Nat} {ρ : Env} {ρc : Operand → Value} {o : Oper} {r : AV × Ups × Nat}

theorem run_shift {op : BinOp} {k k' : IntKind} {a b : Int} {v : AV} (t : TypeId) (hs : isShift op = true) (h : shiftA op k a b = some v) :
    ∃ x, (binOp op t (.int k a) (.int k' b)).run P w = .ok x w ∧ VR ι v x := by
  unfold shiftA at h
  split at h
  · simp at h
  · rename_i hb
    cases op <;> simp [isShift] at hs <;> simp at h <;> subst h <;> exact ⟨_, by simp [binOp, Op.shift, hb], .int _ _⟩

theorem binA_run {t : TypeId} {a b v : AV} {x y : Value} (op : BinOp) (X Y : Operand) (ha : VR ι a x) (hb : VR ι b y) (he : binA P op t a b = some v) :
    ∃ z, (do eqGuard op t X Y x y; binOp op t x y : Sem Value).run P w = .ok z w ∧ VR ι v z := by
  unfold binA at he
  split at he
  · rename_i k a' k' b'
    cases ha; cases hb
    have hg := run_guard_plain (P := P) (w := w) op t X Y (a := .int k a') (b := .int k' b') (.inl rfl)
    simp only [Sem.run_bind, hg, Result.andThen_ok]
    split at he
    · rename_i hs
      exact run_shift t hs he
    · rename_i hs
      split at he
      · rename_i hk
        subst hk
        exact run_binInt t (by simpa using hs) he
      · simp at he
  · rename_i l m
    cases ha with
    | str s =>
      cases hb with
      | str s' =>
        have hg := run_guard_plain (P := P) (w := w) op t X Y (a := .string s) (b := .string s') (.inl rfl)
        simp only [Sem.run_bind, hg, Result.andThen_ok]
        split at he
        · simp at he; subst he
          exact ⟨.bool (s.data == s'.data), by simp [binOp, Op.stringOp, ByteArray.toList_eq], .bool _⟩
        · simp at he; subst he
          exact ⟨.bool (!(s.data == s'.data)), by simp [binOp, Op.stringOp, ByteArray.toList_eq], .bool _⟩
        · simp at he
  · split at he
    · simp at he
    · rename_i q hq
      split at he
      · simp at he; subst he
        exact ⟨_, eqA_run .eql X Y ha hb hq (.inl rfl), by simpa using VR.bool _⟩
      · simp at he; subst he
        exact ⟨_, eqA_run .neq X Y ha hb hq (.inr rfl), by simpa using VR.bool _⟩
      · simp at he

theorem ok_bin (S : Sim B w0 ι h nx w) (E : ER1 ι ρ ρc) {op : BinOp} {t : TypeId} {x y : Operand} {ty : TypeId} (ho : o.op = .binOp op t x y ty) (hr : oBin P ρ op t x y nx = some r) : OpOK P ρc o B w0 ι h w r := by
  unfold oBin at hr
  split at hr
  · rename_i a b ha hb
    split at hr
    · rename_i v hv
      simp at hr; subst hr
      obtain ⟨z, hz, hvz⟩ := binA_run (P := P) (w := w) op x y (E x _ ha) (E y _ hb) hv
      refine OpOK.same S hvz ?_
      have : execOp ρc o = ((do eqGuard op t x y (ρc x) (ρc y); binOp op t (ρc x) (ρc y) : Sem Value) >>= fun v => pure (Next.value v)) := by simp only [execOp, ho]
      rw [this]
      rw [Sem.run_bind, hz]
      rfl
    · simp at hr
  · simp at hr

theorem ok_un (S : Sim B w0 ι h nx w) (E : ER1 ι ρ ρc) {op : UnOp} {t : TypeId} {x : Operand} (ho : o.op = .unOp op t x) (hr : oUn ρ op x nx = some r) : OpOK P ρc o B w0 ι h w r := by
  unfold oUn at hr
  split at hr
  · rename_i a ha
    split at hr
    · rename_i v hv
      simp at hr; subst hr
      have ha := E x _ ha
      generalize hx : ρc x = z at ha
      unfold unA at hv
      split at hv
      · cases ha
        simp at hv; subst hv
        refine OpOK.same S (.int _ _) ?_
        simp [execOp, ho, hx, Op.unary, Op.intArith]
      · cases ha
        split at hv
        · rename_i n hn
          simp at hv; subst hv
          refine OpOK.same S (.int _ _) ?_
          simp only [execOp, ho, hx, Op.unary, Sem.run_bind, run_bits hn, Result.andThen_ok, Sem.run_pure]
        · simp at hv
      · cases ha
        simp at hv; subst hv
        refine OpOK.same S (.bool _) ?_
        simp [execOp, ho, hx, Op.unary]
      · simp at hv
    · simp at hr
  · simp at hr

/-! slices -/
theorem optA_spec {x : Option Operand} {n : Option Nat} (E : ER1 ι ρ ρc) (hx : optA ρ x = some n) : (x = none ∧ n = none) ∨ (∃ y k m, x = some y ∧ n = some m ∧ ρc y = .int k ((m : Nat) : Int)) := by
  cases x with
  | none => simp [optA] at hx; exact .inl ⟨rfl, hx.symm⟩
  | some y =>
    simp only [optA] at hx
    split at hx
    · rename_i v hv
      split at hx
      · rename_i m hm
        simp at hx
        obtain ⟨k, hk⟩ := (E y v hv).nat hm
        exact .inr ⟨y, k, m, rfl, hx.symm, hk⟩
      · simp at hx
    · simp at hx
theorem run_bound {k : IntKind} {i y : Nat} (c : BoundsCode) (h : i ≤ y) : (Instr.sliceBound (.int k (i : Int)) y c).run P w = .ok i w := by
  have : (0 : Int) ≤ (i : Int) ∧ (i : Int) ≤ (y : Int) := by omega
  simp only [Instr.sliceBound, asIntOf, Sem.run_bind, Sem.run_pure, Result.andThen_ok, Sem.run_ite, this, and_self, if_true, Int.toNat_natCast]
theorem run_bounds {lo hi mx : Option Operand} {low high mxn : Option Nat} (isS : Bool) (len cap : Nat) (E : ER1 ι ρ ρc) (h1 : optA ρ lo = some low) (h2 : optA ρ hi = some high) (h3 : optA ρ mx = some mxn)
    (hl : low.getD 0 ≤ high.getD len) (hh : high.getD len ≤ mxn.getD cap) (hm : mxn.getD cap ≤ cap) (hs : mxn.isSome → high.isSome) :
    (Instr.sliceBounds isS len cap (lo.map ρc) (hi.map ρc) (mx.map ρc)).run P w = .ok (low.getD 0, high.getD len, mxn.getD cap) w := by
  rcases optA_spec E h1 with ⟨rfl, rfl⟩ | ⟨y1, k1, m1, rfl, rfl, e1⟩ <;>
  rcases optA_spec E h2 with ⟨rfl, rfl⟩ | ⟨y2, k2, m2, rfl, rfl, e2⟩ <;>
  rcases optA_spec E h3 with ⟨rfl, rfl⟩ | ⟨y3, k3, m3, rfl, rfl, e3⟩ <;>
  simp only [Option.getD_some, Option.getD_none, Option.isSome_some, Option.isSome_none, true_implies] at hl hh hm hs ⊢ <;>
  first
    | (simp at hs; done)
    | simp only [Instr.sliceBounds, Option.map_some, Option.map_none, *, Sem.run_bind, Sem.run_pure, Result.andThen_ok, run_bound _ hl, run_bound _ hh, run_bound _ hm]

theorem al_makeMap (E : ER1 ι ρ ρc) {t : TypeId} {q : Option Operand} (ho : o.op = .makeMap t q) (hr : oMakeMap P ρ t q nx = some r) : AllocOK P ρc o ι w r nx := by
  have fin : (execOp ρc o).run P w = .ok (.value (.map (some w.heap.size))) { w with heap := w.heap.push (.map #[] 0) } → r = (.mp nx, [(nx, some (.map [] 0))], nx + 1) → AllocOK P ρc o ι w r nx := by
    rintro hx rfl
    exact ⟨_, _, _, 0, 0, _, rfl, hx, rfl, rfl, rfl, rfl, ⟨#[], rfl, .nil⟩, fun ι' hp => .mp hp⟩
  unfold oMakeMap at hr
  split at hr
  · simp at hr
    exact fin (by simp [execOp, ho, Instr.makeMap]) hr.symm
  · rename_i x
    split at hr
    · rename_i k n kt et hv hd
      simp at hr
      replace hv := E x _ hv
      generalize hx : ρc x = z at hv
      cases hv
      exact fin (by simp [execOp, ho, hx, Instr.makeMap, run_underlying' hd, asInt, asIntOf]) hr.symm
    · simp at hr

theorem VR.sliced {b off : Nat} {p : Place} (hp : ι b = some p) (l : Nat) (size hi mx : Nat) :
    VR ι (.sl b (if mx = l then off else off + l * size) (hi - l) (mx - l) 0) (.slice (some (if mx = l then ⟨p.blk, p.base + off, none⟩ else (⟨p.blk, p.base + off, none⟩ : Addr).add (l * size))) (hi - l) (mx - l)) := by
  split
  · exact .slc off _ _ hp
  · rw [addr_add, Nat.add_assoc]; exact .slc _ _ _ hp

theorem ok_slice (S : Sim B w0 ι h nx w) (E : ER1 ι ρ ρc) {t : TypeId} {x : Operand} {lo hi mx : Option Operand} (ho : o.op = .slice t x lo hi mx) (hr : oSlice P ρ t x lo hi mx nx = some r) : OpOK P ρc o B w0 ι h w r := by
  unfold oSlice at hr
  split at hr
  · rename_i v low high mxn hv h1 h2 h3
    split at hr
    · rename_i u hs
      simp at hr; subst hr
      replace hv := E x _ hv
      generalize hx : ρc x = y at hv
      unfold sliceA at hs
      split at hs
      · rename_i n elem b off hd
        split at hs
        · rename_i size hsz
          split at hs
          · rename_i hc
            simp at hs; subst hs
            cases hv with
            | ptr off hp =>
              refine OpOK.same S (VR.sliced (off := off) hp (low.getD 0) size (high.getD n) (mxn.getD n)) ?_
              simp only [execOp, ho, hx, Instr.sliceAt, Instr.sureAddr, Sem.run_bind, run_underlying' hd, Result.andThen_ok, Sem.run_pure, run_bounds false n n E h1 h2 h3 hc.1 hc.2.1 hc.2.2.1 hc.2.2.2, run_sizeOf' hsz]
          · simp at hs
        · simp at hs
      · rename_i s hd
        split at hs
        · rename_i hc
          simp at hs; subst hs
          cases hv with
          | str s =>
            obtain ⟨hc0, hc1, hc2⟩ := hc
            subst hc0
            have hmx : mx = none := by
              cases mx with
              | none => rfl
              | some y => simp only [optA] at h3; split at h3 <;> (try split at h3) <;> simp at h3
            subst hmx
            have hb := run_bounds (P := P) (w := w) (mx := none) false s.size s.size E h1 h2 h3 hc1 hc2 (Nat.le_refl _) (by simp)
            have hvr : VR ι (.str ((s.data.toList.drop (low.getD 0)).take (high.getD s.data.toList.length - low.getD 0))) (.string (s.extract (low.getD 0) (high.getD s.size))) := by
              have := VR.str (ι := ι) (s.extract (low.getD 0) (high.getD s.size))
              have e : (s.extract (low.getD 0) (high.getD s.size)).data.toList = (s.data.toList.drop (low.getD 0)).take (high.getD s.data.toList.length - low.getD 0) := by
                simp [List.extract_eq_take_drop]
              rw [e] at this; exact this
            refine OpOK.same S hvr ?_
            simp only [Option.map_none] at hb
            simp only [execOp, ho, hx, Instr.sliceAt, Instr.slice, Sem.run_bind, run_underlying' hd, Result.andThen_ok, Sem.run_pure, Option.map_none, Option.isSome_none, Bool.false_eq_true, if_false, hb]
        · simp at hs
      · rename_i e hd
        split at hs
        · rename_i hc
          simp at hs; subst hs
          cases hv
          obtain ⟨size, hsz⟩ := Option.isSome_iff_exists.1 hc.2.2.2.2
          obtain ⟨e1, e2, e3, hc4, _⟩ := hc
          have hb := run_bounds (P := P) (w := w) true 0 0 E h1 h2 h3 (by omega) (by omega) (by omega) hc4
          rw [e1, e2, e3] at hb
          refine OpOK.same S .snil ?_
          simp only [execOp, ho, hx, Instr.sliceAt, Instr.slice, Sem.run_bind, run_underlying' hd, Result.andThen_ok, Sem.run_pure, hb, run_sizeOf' hsz, if_true, Nat.sub_self]
        · simp at hs
      · rename_i elem b off len cap opn hd
        split at hs
        · rename_i size hsz
          split at hs
          · rename_i hc
            obtain ⟨c1, c2, c3, c4⟩ := hc
            have close : ∀ (p : Place) (cc : Nat), ι b = some p → mxn.getD cap = mxn.getD cc → cap ≤ cc → y = .slice (some ⟨p.blk, p.base + off, none⟩) len cc →
                OpOK P ρc o B w0 ι h w (.sl b (if mxn.getD cap = low.getD 0 then off else off + low.getD 0 * size) (high.getD len - low.getD 0) (mxn.getD cap - low.getD 0) 0, [], nx) := by
              intro p cc hp hm hle hy
              subst hy
              rw [hm] at c2 c3 ⊢
              have hb := run_bounds (P := P) (w := w) true len cc E h1 h2 h3 c1 c2 (by omega) c4
              refine OpOK.same S (VR.sliced (off := off) hp (low.getD 0) size (high.getD len) (mxn.getD cc)) ?_
              simp only [execOp, ho, hx, Instr.sliceAt, Instr.slice, Sem.run_bind, run_underlying' hd, Result.andThen_ok, Sem.run_pure, hb, run_sizeOf' hsz, Option.map_some]
              split <;> rfl
            split at hs
            · rename_i hop
              simp at hs; subst hs
              cases hv with
              | slc _ _ _ hp => exact close _ cap hp rfl (Nat.le_refl _) rfl
              | slo _ _ _ k o' c hp hl hcc h0 hs' h63 =>
                rcases hop with hop | ⟨hop, hpos⟩
                · omega
                · obtain ⟨m, hm⟩ := Option.isSome_iff_exists.1 hop
                  subst hm
                  exact close _ c hp (by simp) hcc (by rw [h0 hpos])
            · rename_i hop
              split at hs
              · simp at hs
              · rename_i hop2
                simp at hs; subst hs
                have hmn : mxn = none := by
                  cases mxn with
                  | none => rfl
                  | some m => simp at hop2
                subst hmn
                simp only [Option.getD_none] at c2 c3 ⊢
                cases hv with
                | slc _ _ _ hp => simp at hop
                | slo _ _ _ k o' c hp hl hcc h0 hs' h63 =>
                  have hk : k = size := by
                    have : ¬ (k + 1 ≠ size + 1) := fun e => hop2 (.inr e)
                    omega
                  subst hk
                  have hb := run_bounds (P := P) (w := w) true len c E h1 h2 h3 c1 (by simp; omega) (by simp) c4
                  simp only [Option.getD_none] at hb
                  have hvr : VR ι (.sl b (off + low.getD 0 * k) (high.getD len - low.getD 0) (cap - low.getD 0) (k + 1))
                      (.slice (some ⟨‹Place›.blk, if c = low.getD 0 then o' else o' + low.getD 0 * k, none⟩) (high.getD len - low.getD 0) (c - low.getD 0)) := by
                    refine .slo _ _ _ _ _ _ hp (by omega) (by omega) (fun hpos => ?_) ?_ (by omega)
                    · rw [if_neg (by omega), h0 (by omega), Nat.add_assoc]
                    · split
                      · rename_i e
                        rw [e, Nat.sub_self, Nat.zero_mul]; omega
                      · have h9 : low.getD 0 ≤ c := by omega
                        have : low.getD 0 * k + (c - low.getD 0) * k = c * k := by rw [← Nat.add_mul]; congr 1; omega
                        omega
                  refine OpOK.same S hvr ?_
                  simp only [execOp, ho, hx, Instr.sliceAt, Instr.slice, Sem.run_bind, run_underlying' hd, Result.andThen_ok, Sem.run_pure, hb, run_sizeOf' hsz, Option.map_some, addr_add]
                  split <;> rfl
          · simp at hs
        · simp at hs
      · simp at hs
    · simp at hr
  · simp at hr

theorem ok_index (S : Sim B w0 ι h nx w) (E : ER1 ι ρ ρc) {t : TypeId} {x ix : Operand} (ho : o.op = .index t x ix) (hr : oIndex P ρ t x ix nx = some r) : OpOK P ρc o B w0 ι h w r := by
  unfold oIndex at hr
  split at hr
  · rename_i xv iv hvx hvi
    replace hvx := E x _ hvx
    replace hvi := E ix _ hvi
    generalize hx : ρc x = y at hvx
    split at hr
    · rename_i i len elem cs hi hd
      obtain ⟨k, hki⟩ := hvi.nat hi
      split at hr
      · rename_i n hn
        split at hr
        · rename_i hlt
          split at hr
          · rename_i v hp
            simp at hr; subst hr
            cases hvx with
            | agg hcs =>
              obtain ⟨z, hz, hvz⟩ := run_part' (P := P) (w := w) hcs hp
              refine OpOK.same S hvz ?_
              have h1 : (0 : Int) ≤ (i : Int) ∧ (i : Int) < (len : Int) := by omega
              simp only [execOp, ho, hx, hki, Instr.index, asIntOf, Sem.run_bind, run_underlying' hd, Result.andThen_ok, Sem.run_pure, Sem.run_ite, h1, and_self, if_true, run_sizeOf' hn, Int.toNat_natCast, hz]
          · simp at hr
        · simp at hr
      · simp at hr
    · rename_i i s hi hd
      obtain ⟨k, hki⟩ := hvi.nat hi
      split at hr
      · rename_i c hc
        simp at hr; subst hr
        cases hvx with
        | str s =>
          refine OpOK.same S (.int .u8 (c.toNat : Int)) ?_
          have hlt : i < s.size := by
            have := (List.getElem?_eq_some_iff.1 hc).1
            simpa using this
          have hs : s[i]? = some c := by
            rw [getElem?_pos s i hlt]
            have := (List.getElem?_eq_some_iff.1 hc).2
            simp at this
            rw [← this]; rfl
          simp only [execOp, ho, hx, hki, Instr.index, asIntOf, Sem.run_bind, run_underlying' hd, Result.andThen_ok, Sem.run_pure, Int.natCast_nonneg, if_true, Int.toNat_natCast, hs]
      · simp at hr
    · simp at hr
  · simp at hr

/-! values made of parts -/
inductive PRs (ι : Mp) : List (Nat × AV) → List (Nat × Value) → Prop
  | nil : PRs ι [] []
  | cons {i : Nat} {v : AV} {x : Value} {l : List (Nat × AV)} {m : List (Nat × Value)} (h : VR ι v x) (t : PRs ι l m) : PRs ι ((i, v) :: l) ((i, x) :: m)
theorem partsA_spec {ops : List (Nat × Operand)} {l : List (Nat × AV)} (E : ER1 ι ρ ρc) (hl : partsA ρ ops = some l) :
    PRs ι l (ops.map fun p => (p.1, ρc p.2)) := by
  induction ops generalizing l with
  | nil => simp [partsA] at hl; subst hl; exact .nil
  | cons p r ih =>
    obtain ⟨i, x⟩ := p
    simp only [partsA] at hl
    split at hl
    · rename_i v hv
      split at hl
      · rename_i m hm
        simp at hl; subst hl
        exact .cons (E x v hv) (ih hm)
      · simp at hl
    · simp at hl
theorem foldl_set (off : Nat) : ∀ (l : List Value) (s : Nat) (c : Array Value), off + s + l.length ≤ c.size →
    (((l.zipIdx s).foldl (fun cs (p : Value × Nat) => cs.setIfInBounds (off + p.2) p.1) c).size = c.size) ∧
    ∀ j, ((l.zipIdx s).foldl (fun cs (p : Value × Nat) => cs.setIfInBounds (off + p.2) p.1) c)[j]? = if off + s ≤ j ∧ j < off + s + l.length then l[j - (off + s)]? else c[j]?
  | [], s, c, _ => by simp; intro j h1 h2; omega
  | x :: l, s, c, hle => by
    obtain ⟨h1, h2⟩ := foldl_set off l (s + 1) (c.setIfInBounds (off + s) x) (by simp at hle ⊢; omega)
    refine ⟨by simp only [List.zipIdx_cons, List.foldl_cons]; rw [h1]; simp, fun j => ?_⟩
    simp only [List.zipIdx_cons, List.foldl_cons]
    rw [h2 j]
    have hlt : off + s < c.size := by simp at hle; omega
    by_cases hj : j = off + s
    · subst hj
      rw [if_neg (by omega), if_pos (by simp)]
      simp [hlt]
    · by_cases hj2 : off + (s + 1) ≤ j ∧ j < off + (s + 1) + l.length
      · rw [if_pos hj2, if_pos (by simp only [List.length_cons]; omega)]
        have : j - (off + s) = (j - (off + (s + 1))) + 1 := by omega
        rw [this]; simp
      · rw [if_neg hj2, if_neg (by simp only [List.length_cons]; omega), Array.getElem?_setIfInBounds, if_neg (by omega)]

theorem fill_spec (place place' : Nat → Option (Nat × Nat)) : ∀ (ps : List (Nat × AV)) (qs : List (Nat × Value)) (cs l : List AV) (c : Array Value), (∀ i q, place i = some q → place' i = some q) →
    PRs ι ps qs → VRs ι cs c.toList → fillA place cs ps = some l → ∃ c' : Array Value, Instr.fill place' c qs = some c' ∧ VRs ι l c'.toList
  | [], _, cs, l, c, _, .nil, hc, h => by simp [fillA] at h; subst h; exact ⟨c, by simp [Instr.fill], hc⟩
  | (i, v) :: ps, (_, x) :: qs, cs, l, c, hpl, .cons hv ht, hc, h => by
    simp only [fillA] at h
    split at h
    · simp at h
    · rename_i off size hp
      split at h
      · rename_i hsz
        split at h
        · rename_i cs' hov
          obtain ⟨l1, l2, l3, _, l4⟩ := overAt_spec hov
          have hlc := hc.length
          have hlv := hv.cells.length
          have hle : off + x.cells.size ≤ c.size := by simp at hlc hlv; omega
          obtain ⟨f1, f2⟩ := foldl_set off x.cells.toList 0 c (by simpa using hle)
          have hc' : VRs ι cs' (x.cells.zipIdx.foldl (fun cs (p : Value × Nat) => cs.setIfInBounds (off + p.2) p.1) c).toList := by
            have hfe : x.cells.zipIdx.foldl (fun cs (p : Value × Nat) => cs.setIfInBounds (off + p.2) p.1) c = (x.cells.toList.zipIdx 0).foldl (fun cs (p : Value × Nat) => cs.setIfInBounds (off + p.2) p.1) c := by
              rw [← Array.foldl_toList]; simp
            rw [hfe]
            refine VRs.mk ?_ fun k a hk => ?_
            · simp only [Array.length_toList]; rw [f1, l1]; simpa using hlc
            · rw [l4 k] at hk
              rw [Array.getElem?_toList, f2 k]
              split at hk
              · rename_i hk2
                obtain ⟨y, hy, hvy⟩ := hv.cells.get hk
                exact ⟨y, by rw [if_pos (by omega)]; simpa using hy, hvy⟩
              · rename_i hk2
                obtain ⟨y, hy, hvy⟩ := hc.get hk
                exact ⟨y, by rw [if_neg (by omega)]; simpa using hy, hvy⟩
          obtain ⟨c', g1, g2⟩ := fill_spec place place' ps qs cs' l _ hpl ht hc' h
          refine ⟨c', ?_, g2⟩
          have hsz' : x.cells.size = size := by simp at hlv; omega
          have hno : ¬ (x.cells.size ≠ size || decide (off + x.cells.size > c.size)) = true := by simp [hsz']; omega
          simp only [Instr.fill, hpl _ _ hp]
          rw [if_neg hno]
          exact g1
        · simp at h
      · simp at h
end Go.Ev
