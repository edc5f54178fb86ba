/- Proved here: the abstract heap's own laws, and how an abstract heap and a world of the model stand to one another. -/
import Derived.Test.YtnbhgeehlcjmdaaGreatV1
import Derived.Below
import Derived.Laws.Sem
import Derived.Laws.World
namespace Go.Ev
open Go

/-! the heap: what is read behind a write -/
theorem HT.get_set (o : Option Obj) : ∀ (f : Nat) (t : HT) (k j : Nat) (x : Obj), (HT.set o f t k).get f j = some x → (j = k ∧ o = some x) ∨ (j ≠ k ∧ t.get f j = some x) := by
  intro f
  induction f with
  | zero => intro t k j x h; simp [HT.get] at h
  | succ f ih =>
    intro t k j x h
    cases t with
    | e =>
      cases k with
      | zero =>
        cases j with
        | zero => simp only [HT.set, HT.get] at h; exact .inl ⟨rfl, h⟩
        | succ j => simp only [HT.set, HT.get] at h; split at h <;> (cases f <;> simp [HT.get] at h)
      | succ k =>
        simp only [HT.set] at h
        cases j with
        | zero => split at h <;> simp [HT.get] at h
        | succ j =>
          by_cases hk : k % 2 = 0
          · simp only [hk, if_true] at h
            simp only [HT.get] at h
            by_cases hj : j % 2 = 0
            · simp only [hj, if_true] at h
              rcases ih .e (k / 2) (j / 2) x h with ⟨a, b⟩ | ⟨_, b⟩
              · exact .inl ⟨by omega, b⟩
              · cases f <;> simp [HT.get] at b
            · simp only [hj, if_false] at h
              cases f <;> simp [HT.get] at h
          · simp only [hk, if_false] at h
            simp only [HT.get] at h
            by_cases hj : j % 2 = 0
            · simp only [hj, if_true] at h
              cases f <;> simp [HT.get] at h
            · simp only [hj, if_false] at h
              rcases ih .e (k / 2) (j / 2) x h with ⟨a, b⟩ | ⟨_, b⟩
              · exact .inl ⟨by omega, b⟩
              · cases f <;> simp [HT.get] at b
    | n l v r =>
      cases k with
      | zero =>
        cases j with
        | zero => simp only [HT.set, HT.get] at h; exact .inl ⟨rfl, h⟩
        | succ j => simp only [HT.set, HT.get] at h ⊢; exact .inr ⟨by omega, h⟩
      | succ k =>
        simp only [HT.set] at h
        cases j with
        | zero =>
          refine .inr ⟨by omega, ?_⟩
          split at h <;> exact h
        | succ j =>
          by_cases hk : k % 2 = 0
          · simp only [hk, if_true] at h
            simp only [HT.get] at h ⊢
            by_cases hj : j % 2 = 0
            · simp only [hj, if_true] at h ⊢
              rcases ih l (k / 2) (j / 2) x h with ⟨a, b⟩ | ⟨a, b⟩
              · exact .inl ⟨by omega, b⟩
              · exact .inr ⟨by omega, b⟩
            · simp only [hj, if_false] at h ⊢
              exact .inr ⟨by intro e; cases e; exact hj hk, h⟩
          · simp only [hk, if_false] at h
            simp only [HT.get] at h ⊢
            by_cases hj : j % 2 = 0
            · simp only [hj, if_true] at h ⊢
              exact .inr ⟨by intro e; cases e; exact hk hj, h⟩
            · simp only [hj, if_false] at h ⊢
              rcases ih r (k / 2) (j / 2) x h with ⟨a, b⟩ | ⟨a, b⟩
              · exact .inl ⟨by omega, b⟩
              · exact .inr ⟨by omega, b⟩

theorem hget_hset {h : HT} {k j : Nat} {o : Option Obj} {x : Obj} (hh : hget (hset h k o) j = some x) : (j = k ∧ o = some x) ∨ (j ≠ k ∧ hget h j = some x) :=
  HT.get_set o depth h k j x hh
theorem hget_e (k : Nat) : hget .e k = none := rfl

/-! values -/
structure Place where
  blk : Nat
  base : Nat
  size : Nat
abbrev Mp := Nat → Option Place
def Mp.le (a b : Mp) : Prop := ∀ k p, a k = some p → b k = some p
theorem Mp.le.refl (a : Mp) : a.le a := fun _ _ h => h
theorem Mp.le.trans {a b c : Mp} (h : a.le b) (g : b.le c) : a.le c := fun k p x => g k p (h k p x)

mutual
/-- a value of the reckoner's, and one of the model's -/
inductive VR (ι : Mp) : AV → Value → Prop
  | dead : VR ι .dead undef
  | bool (b : Bool) : VR ι (.bool b) (.bool b)
  | int (k : IntKind) (n : Int) : VR ι (.int k n) (.int k n)
  | str (s : ByteArray) : VR ι (.str s.data.toList) (.string s)
  | pnil : VR ι .pnil (.pointer none)
  | ptr {b : Nat} {p : Place} (off : Nat) (h : ι b = some p) : VR ι (.ptr b off) (.pointer (some ⟨p.blk, p.base + off, none⟩))
  | snil : VR ι .snil (.slice none 0 0)
  | slc {b : Nat} {p : Place} (off len cap : Nat) (h : ι b = some p) : VR ι (.sl b off len cap 0) (.slice (some ⟨p.blk, p.base + off, none⟩) len cap)
  | slo {b : Nat} {p : Place} (off len cap k o c : Nat) (h : ι b = some p) (hl : len ≤ cap) (hc : cap ≤ c) (ho : 0 < cap → o = p.base + off) (hs : o + c * k ≤ p.size) (hm : c ≤ 9223372036854775807) :
      VR ι (.sl b off len cap (k + 1)) (.slice (some ⟨p.blk, o, none⟩) len c)
  | mnil : VR ι .mnil (.map none)
  | mp {b : Nat} {p : Place} (h : ι b = some p) : VR ι (.mp b) (.map (some p.blk))
  | fnil : VR ι .fnil .nilFunc
  | fn (f : Nat) {a b : List AV} {A C : Array Value} (ha : VRs ι a A.toList) (hb : VRs ι b C.toList) : VR ι (.fn f a b) (.func (.func f) A C)
  | yld {l : Nat} {p : Place} (h : ι l = some p) : VR ι (.yld l) (.func (.yield p.blk) #[] #[])
  | agg {l : List AV} {c : Array Value} (h : VRs ι l c.toList) : VR ι (.agg l) (.agg c)
  | tup {l : List AV} {c : Array Value} (h : VRs ι l c.toList) : VR ι (.tup l) (.tuple c)
inductive VRs (ι : Mp) : List AV → List Value → Prop
  | nil : VRs ι [] []
  | cons {a : AV} {x : Value} {l : List AV} {m : List Value} (h : VR ι a x) (t : VRs ι l m) : VRs ι (a :: l) (x :: m)
end

mutual
theorem VR.mono {ι ι' : Mp} (hl : ι.le ι') : ∀ {a : AV} {x : Value}, VR ι a x → VR ι' a x
  | _, _, .dead => .dead
  | _, _, .bool b => .bool b
  | _, _, .int k n => .int k n
  | _, _, .str s => .str s
  | _, _, .pnil => .pnil
  | _, _, .ptr off h => .ptr off (hl _ _ h)
  | _, _, .snil => .snil
  | _, _, .slc a b c h => .slc a b c (hl _ _ h)
  | _, _, .slo a b c d e f h h1 h2 h3 h4 h5 => .slo a b c d e f (hl _ _ h) h1 h2 h3 h4 h5
  | _, _, .mnil => .mnil
  | _, _, .mp h => .mp (hl _ _ h)
  | _, _, .fnil => .fnil
  | _, _, .fn f ha hb => .fn f (VRs.mono hl ha) (VRs.mono hl hb)
  | _, _, .yld h => .yld (hl _ _ h)
  | _, _, .agg h => .agg (VRs.mono hl h)
  | _, _, .tup h => .tup (VRs.mono hl h)
theorem VRs.mono {ι ι' : Mp} (hl : ι.le ι') : ∀ {a : List AV} {x : List Value}, VRs ι a x → VRs ι' a x
  | _, _, .nil => .nil
  | _, _, .cons h t => .cons (VR.mono hl h) (VRs.mono hl t)
end

theorem VRs.length {ι : Mp} {l : List AV} {m : List Value} (h : VRs ι l m) : l.length = m.length := by
  induction l generalizing m with
  | nil => cases h; rfl
  | cons a l ih => cases h with | cons h t => simp [ih t]
theorem VRs.get {ι : Mp} {l : List AV} {m : List Value} (h : VRs ι l m) {i : Nat} {a : AV} (hi : l[i]? = some a) : ∃ x, m[i]? = some x ∧ VR ι a x := by
  induction l generalizing m i with
  | nil => simp at hi
  | cons b l ih =>
    cases h with
    | cons h t =>
      cases i with
      | zero => simp at hi; subst hi; exact ⟨_, by simp, h⟩
      | succ i => simp at hi ⊢; exact ih t hi
theorem VRs.append {ι : Mp} {l l' : List AV} {m m' : List Value} (h : VRs ι l m) (h' : VRs ι l' m') : VRs ι (l ++ l') (m ++ m') := by
  induction l generalizing m with
  | nil => cases h; simpa using h'
  | cons a l ih => cases h with | cons h t => exact .cons h (ih t)
theorem VRs.mk {ι : Mp} {l : List AV} {m : List Value} (hl : l.length = m.length) (h : ∀ (i : Nat) (a : AV), l[i]? = some a → ∃ x, m[i]? = some x ∧ VR ι a x) : VRs ι l m := by
  induction l generalizing m with
  | nil => cases m with | nil => exact .nil | cons => simp at hl
  | cons a l ih =>
    cases m with
    | nil => simp at hl
    | cons x m =>
      obtain ⟨y, hy, hv⟩ := h 0 a (by simp)
      simp at hy; subst hy
      exact .cons hv (ih (by simpa using hl) (fun i b hb => by simpa using h (i + 1) b (by simpa using hb)))
theorem VRs.take {ι : Mp} {l : List AV} {m : List Value} (h : VRs ι l m) (n : Nat) : VRs ι (l.take n) (m.take n) := by
  induction l generalizing m n with
  | nil => cases h; simp; exact .nil
  | cons a l ih => cases h with | cons h t => cases n with | zero => exact .nil | succ n => exact .cons h (ih t n)
theorem VRs.drop {ι : Mp} {l : List AV} {m : List Value} (h : VRs ι l m) (n : Nat) : VRs ι (l.drop n) (m.drop n) := by
  induction l generalizing m n with
  | nil => cases h; simp; exact .nil
  | cons a l ih => cases h with | cons h t => cases n with | zero => exact .cons h t | succ n => exact ih t n

/-- what stores one cell -/
theorem VR.cell {ι : Mp} {a : AV} {x : Value} (h : VR ι a x) (hc : cellOK a = true) : x.oneCell' = true := by
  cases h <;> first | rfl | simp [cellOK] at hc
/-- the cells of a value -/
theorem VR.cells {ι : Mp} {a : AV} {x : Value} (h : VR ι a x) : VRs ι a.cells x.cells.toList := by
  cases h with
  | agg h => exact h
  | dead => exact .cons .dead .nil
  | bool b => exact .cons (.bool b) .nil
  | int k n => exact .cons (.int k n) .nil
  | str s => exact .cons (.str s) .nil
  | pnil => exact .cons .pnil .nil
  | ptr off h => exact .cons (.ptr off h) .nil
  | snil => exact .cons .snil .nil
  | slc a b c h => exact .cons (.slc a b c h) .nil
  | slo a b c d e f h h1 h2 h3 h4 h5 => exact .cons (.slo a b c d e f h h1 h2 h3 h4 h5) .nil
  | mnil => exact .cons .mnil .nil
  | mp h => exact .cons (.mp h) .nil
  | fnil => exact .cons .fnil .nil
  | fn f ha hb => exact .cons (.fn f ha hb) .nil
  | yld h => exact .cons (.yld h) .nil
  | tup h => exact .cons (.tup h) .nil

theorem VR.ofCell {ι : Mp} {x : Value} {a : AV} (h : Ev.ofCell x = some a) : VR ι a x := by
  unfold Ev.ofCell at h
  split at h <;> first
    | (cases h; first | exact .bool _ | exact .int _ _ | exact .str _ | exact .pnil | exact .snil | exact .mnil | exact .fnil)
    | simp at h
theorem VRs.ofCells {ι : Mp} : ∀ {l : List Value} {a : List AV}, Ev.ofCells l = some a → VRs ι a l
  | [], _, h => by simp [Ev.ofCells] at h; subst h; exact .nil
  | v :: r, a, h => by
    simp only [Ev.ofCells] at h
    split at h
    · simp at h
    · rename_i b hb
      split at h
      · simp at h
      · rename_i l hl
        simp at h; subst h
        exact .cons (VR.ofCell hb) (VRs.ofCells hl)
theorem VR.ofValue {ι : Mp} {x : Value} {a : AV} (h : Ev.ofValue x = some a) : VR ι a x := by
  unfold Ev.ofValue at h
  split at h
  · split at h
    · rename_i l hl
      simp at h; subst h
      exact .agg (VRs.ofCells hl)
    · simp at h
  · exact VR.ofCell h

/-! blocks -/
/-- temporaries -/
def FR (ι : Mp) (look : Nat → Option AV) (tmps : Array Value) : Prop := ∀ t v, look t = some v → ∃ x, tmps[t]? = some x ∧ VR ι v x
inductive ER (ι : Mp) : List (AV × AV × Nat) → List MapEntry → Prop
  | nil : ER ι [] []
  | cons {k v : AV} {b : Nat} {e : MapEntry} {l : List (AV × AV × Nat)} {m : List MapEntry} (hk : VR ι k e.key) (hv : VR ι v e.val) (hb : e.born = b) (t : ER ι l m) : ER ι ((k, v, b) :: l) (e :: m)
/-- of code: all temporaries that it names are below a number -/
def opsFit (N : Nat) (ops : List Oper) : Bool := ops.all fun o => match o.dst with | some d => decide (d < N) | none => true
/-- r: within a round -/
def fits (r : Bool) (N : Nat) : Code → Bool
  | .region _ ops _ => opsFit N ops.toList
  | .seq a b => fits r N a && fits r N b
  | .cond _ a b => fits r N a && fits r N b
  | .block _ a => fits r N a
  | .loop a => fits r N a
  | .rangeFunc _ ps a b => !r && ps.toList.all (fun t => decide (t < N)) && fits true N a && fits true N b
  | .scope _ => false
  | _ => true
def ObjR (ι : Mp) (p : Place) (x : Option Go.Obj) : Obj → Prop
  | .cells vs => ∃ c e fz, x = some (.cells c e fz) ∧ c.size = p.size ∧ p.base + vs.length ≤ p.size ∧ (fz.1 = fz.2 ∨ (c.size ≤ fz.1 ∧ vs.all u8V = true)) ∧ ∀ (i : Nat) (v : AV), vs[i]? = some v → ∃ y, c[p.base + i]? = some y ∧ VR ι v y
  | .map es cl => ∃ es', x = some (.map es' cl) ∧ ER ι es es'.toList
  | .loop r => ∃ L, x = some (.loop L) ∧ L.state = r.state ∧ L.pending = r.pending ∧ L.params = r.params ∧ L.assign = r.assign ∧ L.body = r.body ∧
      FR ι (fun t => if r.mask.testBit t then r.fr.get t else none) L.tmps ∧ fits true L.tmps.size r.assign = true ∧ fits true L.tmps.size r.body = true ∧ r.params.toList.all (fun t => decide (t < L.tmps.size)) = true

theorem FR.mono {ι ι' : Mp} (hl : ι.le ι') {look : Nat → Option AV} {tmps : Array Value} (h : FR ι look tmps) : FR ι' look tmps :=
  fun t v ht => let ⟨x, hx, hv⟩ := h t v ht; ⟨x, hx, hv.mono hl⟩
theorem ER.mono {ι ι' : Mp} (hl : ι.le ι') {l : List (AV × AV × Nat)} {m : List MapEntry} (h : ER ι l m) : ER ι' l m := by
  induction h with
  | nil => exact .nil
  | cons hk hv hb _ ih => exact .cons (hk.mono hl) (hv.mono hl) hb ih
theorem ObjR.mono {ι ι' : Mp} (hl : ι.le ι') {p : Place} {x : Option Go.Obj} {o : Obj} (h : ObjR ι p x o) : ObjR ι' p x o := by
  cases o with
  | cells vs =>
    obtain ⟨c, e, fz, h1, h2, h3, h4, h5⟩ := h
    exact ⟨c, e, fz, h1, h2, h3, h4, fun i v hv => let ⟨y, hy, hr⟩ := h5 i v hv; ⟨y, hy, hr.mono hl⟩⟩
  | map es cl => obtain ⟨es', h1, h2⟩ := h; exact ⟨es', h1, h2.mono hl⟩
  | loop r => obtain ⟨L, h1, h2, h3, h4, h5, h6, h7, h8⟩ := h; exact ⟨L, h1, h2, h3, h4, h5, h6, h7.mono hl, h8⟩

/-- the blocks that a run may have touched, and where its numbers end -/
structure Bd where
  has : Nat → Prop
  hi : Nat
instance : CoeFun Bd (fun _ => Nat → Prop) := ⟨Bd.has⟩
/-- the abstract heap, and the world: B are the blocks that the run may have touched; w0 is the world at its beginning; what is not mapped says nothing -/
structure Sim (B : Bd) (w0 : World) (ι : Mp) (h : HT) (nx : Nat) (w : World) : Prop where
  objs : ∀ b o p, hget h b = some o → ι b = some p → ObjR ι p w.heap[p.blk]? o
  dom : ∀ b o, hget h b = some o → b < nx
  inj : ∀ b c o o' p q, hget h b = some o → hget h c = some o' → ι b = some p → ι c = some q → p.blk = q.blk → b = c
  fresh : ∀ b, nx ≤ b → b < B.hi → ι b = none
  mine : ∀ b o p, hget h b = some o → ι b = some p → B p.blk
  old : ∀ k, ¬ B k → w.heap[k]? = w0.heap[k]?
  newB : ∀ k, w0.heap.size ≤ k → B k
  size : w0.heap.size ≤ w.heap.size
  os : w.os = w0.os
  tape : w.tape = w0.tape
  output : w.output = w0.output
variable {B : Bd}

theorem ObjR.lt {ι : Mp} {p : Place} {w : World} {o : Obj} (hr : ObjR ι p w.heap[p.blk]? o) : p.blk < w.heap.size := by
  rcases Nat.lt_or_ge p.blk w.heap.size with h' | h'
  · exact h'
  · rw [Array.getElem?_eq_none h'] at hr
    cases o with
    | cells vs => obtain ⟨c, e, fz, h1, _⟩ := hr; cases h1
    | map es cl => obtain ⟨es', h1, _⟩ := hr; cases h1
    | loop r => obtain ⟨L, h1, _⟩ := hr; cases h1
theorem Sim.objs1 {w0 w : World} {ι : Mp} {h : HT} {nx : Nat} (S : Sim B w0 ι h nx w) {b : Nat} {o : Obj} {p : Place} (hb : hget h b = some o) (hp : ι b = some p) :
    ∃ q, ι b = some q ∧ ObjR ι q w.heap[q.blk]? o := ⟨p, hp, S.objs b o p hb hp⟩

def Mp.put (ι : Mp) (k : Nat) (p : Place) : Mp := fun b => if b = k then some p else ι b
theorem Mp.put_le {ι : Mp} {k : Nat} {p : Place} (h : ι k = none) : ι.le (ι.put k p) := fun b q hb => by
  unfold Mp.put; split
  · rename_i e; subst e; rw [h] at hb; cases hb
  · exact hb
theorem Mp.put_same (ι : Mp) (k : Nat) (p : Place) : ι.put k p k = some p := by simp [Mp.put]
theorem Mp.put_ne {ι : Mp} {k c : Nat} {p q : Place} (h : (ι.put k p) c = some q) (hc : c ≠ k) : ι c = some q := by
  unfold Mp.put at h; rw [if_neg hc] at h; exact h

/-- from a number on, all is as it was -/
def Mp.up (n : Nat) (ι ι' : Mp) : Prop := ι.le ι' ∧ ∀ b, n ≤ b → ι' b = ι b
theorem Mp.up.refl (n : Nat) (ι : Mp) : Mp.up n ι ι := ⟨Mp.le.refl ι, fun _ _ => rfl⟩
theorem Mp.up.trans {n n' : Nat} {a b c : Mp} (h : Mp.up n a b) (g : Mp.up n' b c) (hn : n ≤ n') : Mp.up n' a c :=
  ⟨h.1.trans g.1, fun k hk => (g.2 k hk).trans (h.2 k (Nat.le_trans hn hk))⟩
theorem Mp.up.put {n k : Nat} {ι : Mp} {p : Place} (h : ι k = none) (hk : k < n) : Mp.up n ι (ι.put k p) :=
  ⟨Mp.put_le h, fun b hb => by unfold Mp.put; rw [if_neg (by omega)]⟩

/-- the same heap, of which less is known -/
theorem Sim.weaken {w0 w : World} {ι : Mp} {h h' : HT} {nx : Nat} (S : Sim B w0 ι h nx w) (hh : ∀ b o, hget h' b = some o → hget h b = some o) : Sim B w0 ι h' nx w :=
  ⟨fun b o p hb => S.objs b o p (hh b o hb), fun b o hb => S.dom b o (hh b o hb), fun b c o o' p q hb hc => S.inj b c o o' p q (hh b o hb) (hh c o' hc), S.fresh, fun b o p hb => S.mine b o p (hh b o hb), S.old, S.newB, S.size, S.os, S.tape, S.output⟩
theorem Sim.kill {w0 w : World} {ι : Mp} {h : HT} {nx : Nat} (S : Sim B w0 ι h nx w) (k : Nat) : Sim B w0 ι (hset h k none) nx w :=
  S.weaken fun b o hb => by
    rcases hget_hset hb with ⟨_, e⟩ | ⟨_, e⟩
    · cases e
    · exact e
/-- worlds that differ in what they have drawn alone -/
theorem Sim.alike {w0 w w' : World} {ι : Mp} {h : HT} {nx : Nat} (S : Sim B w0 ι h nx w) (h1 : w'.heap = w.heap) (h2 : w'.os = w.os) (h3 : w'.tape = w.tape) (h4 : w'.output = w.output) : Sim B w0 ι h nx w' := by
  refine ⟨fun b o p hb hp => by rw [h1]; exact S.objs b o p hb hp, S.dom, S.inj, S.fresh, S.mine, fun k hk => by rw [h1]; exact S.old k hk, S.newB, by rw [h1]; exact S.size, h2.trans S.os, h3.trans S.tape, h4.trans S.output⟩

/-- a block's content is another one -/
theorem Sim.upd {w0 w w' : World} {ι : Mp} {h : HT} {nx b : Nat} {o o' : Obj} {p : Place} (S : Sim B w0 ι h nx w) (hb : hget h b = some o) (hp : ι b = some p)
    (hs : w'.heap.size = w.heap.size) (ho : ∀ k, k ≠ p.blk → w'.heap[k]? = w.heap[k]?) (hr : ObjR ι p w'.heap[p.blk]? o') (h2 : w'.os = w.os) (h3 : w'.tape = w.tape) (h4 : w'.output = w.output) :
    Sim B w0 ι (hset h b (some o')) nx w' := by
  have hget' : ∀ c x, hget (hset h b (some o')) c = some x → (c = b ∧ x = o') ∨ (c ≠ b ∧ hget h c = some x) := fun c x hc => by
    rcases hget_hset hc with ⟨e, e'⟩ | e
    · exact .inl ⟨e, by cases e'; rfl⟩
    · exact .inr e
  have some' : ∀ c x, hget (hset h b (some o')) c = some x → ∃ y, hget h c = some y := fun c x hc => by
    rcases hget' c x hc with ⟨rfl, _⟩ | ⟨_, e⟩
    · exact ⟨_, hb⟩
    · exact ⟨_, e⟩
  refine ⟨fun c x q hc hq => ?_, fun c x hc => ?_, fun c d x y q r hc hd hq hr' e => ?_, S.fresh, fun c x q hc hq => ?_, fun k hk => ?_, S.newB, by rw [hs]; exact S.size, h2.trans S.os, h3.trans S.tape, h4.trans S.output⟩
  · rcases hget' c x hc with ⟨rfl, rfl⟩ | ⟨hne, hc'⟩
    · rw [hp] at hq; cases hq; exact hr
    · rw [ho q.blk (fun e => hne (S.inj c b x o q p hc' hb hq hp e))]
      exact S.objs c x q hc' hq
  · obtain ⟨_, a⟩ := some' c x hc
    exact S.dom c _ a
  · obtain ⟨_, a⟩ := some' c x hc
    obtain ⟨_, a'⟩ := some' d y hd
    exact S.inj c d _ _ q r a a' hq hr' e
  · obtain ⟨_, a⟩ := some' c x hc
    exact S.mine c _ q a hq
  · rw [ho k (fun e => hk (e ▸ S.mine b o p hb hp))]
    exact S.old k hk

/-- a new block, at the end of the heap -/
theorem Sim.new {w0 w w' : World} {ι : Mp} {h : HT} {nx : Nat} {o : Obj} {base size : Nat} (S : Sim B w0 ι h nx w) (hnx : nx + 1 ≤ B.hi)
    (hs : w.heap.size < w'.heap.size) (ho : ∀ k, k < w.heap.size → w'.heap[k]? = w.heap[k]?) (hr : ObjR (ι.put nx ⟨w.heap.size, base, size⟩) ⟨w.heap.size, base, size⟩ w'.heap[w.heap.size]? o)
    (h2 : w'.os = w.os) (h3 : w'.tape = w.tape) (h4 : w'.output = w.output) :
    Sim B w0 (ι.put nx ⟨w.heap.size, base, size⟩) (hset h nx (some o)) (nx + 1) w' := by
  have hle : ι.le (ι.put nx ⟨w.heap.size, base, size⟩) := Mp.put_le (S.fresh nx (Nat.le_refl _) hnx)
  have key : ∀ c x q, hget (hset h nx (some o)) c = some x → (ι.put nx ⟨w.heap.size, base, size⟩) c = some q → (c = nx ∧ x = o ∧ q = ⟨w.heap.size, base, size⟩) ∨ (c ≠ nx ∧ hget h c = some x ∧ ι c = some q ∧ q.blk < w.heap.size) := fun c x q hc hq => by
    rcases hget_hset hc with ⟨rfl, e'⟩ | ⟨hne, hc'⟩
    · rw [Mp.put_same] at hq; cases hq; cases e'; exact .inl ⟨rfl, rfl, rfl⟩
    · have hq' := Mp.put_ne hq hne
      exact .inr ⟨hne, hc', hq', (S.objs c x q hc' hq').lt⟩
  refine ⟨fun c x q hc hq => ?_, fun c x hc => ?_, fun c d x y q r hc hd hq hr' e => ?_, fun b hb hb2 => ?_, fun c x q hc hq => ?_, fun k hk => ?_, S.newB, Nat.le_trans S.size (Nat.le_of_lt hs), h2.trans S.os, h3.trans S.tape, h4.trans S.output⟩
  · rcases key c x q hc hq with ⟨rfl, rfl, rfl⟩ | ⟨hne, hc', hq', hlt⟩
    · exact hr
    · rw [ho _ hlt]; exact (S.objs c x q hc' hq').mono hle
  · rcases hget_hset hc with ⟨rfl, _⟩ | ⟨_, hc'⟩
    · exact Nat.lt_succ_self _
    · exact Nat.lt_succ_of_lt (S.dom c x hc')
  · rcases key c x q hc hq with ⟨rfl, _, rfl⟩ | ⟨_, hc', hq1, hl1⟩ <;> rcases key d y r hd hr' with ⟨rfl, _, rfl⟩ | ⟨_, hd', hq2, hl2⟩
    · rfl
    · simp only at e; omega
    · simp only at e; omega
    · exact S.inj c d x y _ _ hc' hd' hq1 hq2 e
  · unfold Mp.put; rw [if_neg (by omega)]; exact S.fresh b (by omega) hb2
  · rcases key c x q hc hq with ⟨_, _, rfl⟩ | ⟨_, hc', hq1, _⟩
    · exact S.newB _ S.size
    · exact S.mine c x _ hc' hq1
  · rcases Nat.lt_or_ge k w.heap.size with hlt | hge
    · rw [ho k hlt]; exact S.old k hk
    · exact absurd (S.newB k (Nat.le_trans S.size hge)) hk

/-- a block that was one's is another one's now, from another place on -/
theorem Sim.move {w0 w w' : World} {ι : Mp} {h : HT} {nx b : Nat} {o o' : Obj} {p : Place} {base : Nat} (S : Sim B w0 ι h nx w) (hnx : nx + 1 ≤ B.hi) (hb : hget h b = some o) (hp : ι b = some p)
    (hs : w'.heap.size = w.heap.size) (ho : ∀ k, k ≠ p.blk → w'.heap[k]? = w.heap[k]?) (hr : ObjR (ι.put nx ⟨p.blk, base, p.size⟩) ⟨p.blk, base, p.size⟩ w'.heap[p.blk]? o')
    (h2 : w'.os = w.os) (h3 : w'.tape = w.tape) (h4 : w'.output = w.output) :
    Sim B w0 (ι.put nx ⟨p.blk, base, p.size⟩) (hset (hset h b none) nx (some o')) (nx + 1) w' := by
  have hle : ι.le (ι.put nx ⟨p.blk, base, p.size⟩) := Mp.put_le (S.fresh nx (Nat.le_refl _) hnx)
  have key : ∀ c x q, hget (hset (hset h b none) nx (some o')) c = some x → (ι.put nx ⟨p.blk, base, p.size⟩) c = some q →
      (c = nx ∧ x = o' ∧ q = ⟨p.blk, base, p.size⟩) ∨ (c ≠ nx ∧ c ≠ b ∧ hget h c = some x ∧ ι c = some q ∧ q.blk ≠ p.blk) := fun c x q hc hq => by
    rcases hget_hset hc with ⟨rfl, e'⟩ | ⟨hne, hc'⟩
    · rw [Mp.put_same] at hq; cases hq; cases e'; exact .inl ⟨rfl, rfl, rfl⟩
    · have hq' := Mp.put_ne hq hne
      rcases hget_hset hc' with ⟨_, e'⟩ | ⟨hnb, hc''⟩
      · cases e'
      · exact .inr ⟨hne, hnb, hc'', hq', fun e => hnb (S.inj c b x o q p hc'' hb hq' hp e)⟩
  refine ⟨fun c x q hc hq => ?_, fun c x hc => ?_, fun c d x y q r hc hd hq hr' e => ?_, fun c hc hc2 => ?_, fun c x q hc hq => ?_, fun k hk => ?_, S.newB, by rw [hs]; exact S.size, h2.trans S.os, h3.trans S.tape, h4.trans S.output⟩
  · rcases key c x q hc hq with ⟨rfl, rfl, rfl⟩ | ⟨_, _, hc', hq', hne⟩
    · exact hr
    · rw [ho _ hne]; exact (S.objs c x q hc' hq').mono hle
  · rcases hget_hset hc with ⟨rfl, _⟩ | ⟨_, hc'⟩
    · exact Nat.lt_succ_self _
    · rcases hget_hset hc' with ⟨_, e'⟩ | ⟨_, hc''⟩
      · cases e'
      · exact Nat.lt_succ_of_lt (S.dom c x hc'')
  · rcases key c x q hc hq with ⟨rfl, rfl, rfl⟩ | ⟨_, _, hc', hq', hne⟩ <;> rcases key d y r hd hr' with ⟨rfl, rfl, rfl⟩ | ⟨_, _, hd', hr2, hne'⟩
    · rfl
    · exact absurd e.symm hne'
    · exact absurd e hne
    · exact S.inj c d x y _ _ hc' hd' hq' hr2 e
  · unfold Mp.put; rw [if_neg (by omega)]; exact S.fresh c (by omega) hc2
  · rcases key c x q hc hq with ⟨rfl, rfl, rfl⟩ | ⟨_, _, hc', hq', hne⟩
    · exact S.mine b o p hb hp
    · exact S.mine c x _ hc' hq'
  · rw [ho k (fun e => hk (e ▸ S.mine b o p hb hp))]
    exact S.old k hk

/-- seen from here on: what is not mapped stays as it is -/
theorem Sim.rebase {w0 w : World} {ι : Mp} {h : HT} {nx hi : Nat} (S : Sim B w0 ι h nx w) (hf : ∀ b, nx ≤ b → b < hi → ι b = none) :
    Sim ⟨fun k => (∃ b o p, hget h b = some o ∧ ι b = some p ∧ p.blk = k) ∨ w.heap.size ≤ k, hi⟩ w ι h nx w :=
  ⟨S.objs, S.dom, S.inj, hf, fun b o p hb hp => .inl ⟨b, o, p, hb, hp, rfl⟩, fun _ _ => rfl, fun _ hk => .inr hk, Nat.le_refl _, rfl, rfl, rfl⟩
/-- and back -/
theorem Sim.back {w0 w w' : World} {ι ι' : Mp} {h h' : HT} {nx nx' hi hi' : Nat} (S : Sim B w0 ι h nx w)
    (S' : Sim ⟨fun k => (∃ b o p, hget h b = some o ∧ ι b = some p ∧ p.blk = k) ∨ w.heap.size ≤ k, hi⟩ w ι' h' nx' w') (hf : ∀ b, nx' ≤ b → b < hi' → ι' b = none) : Sim ⟨B.has, hi'⟩ w0 ι' h' nx' w' := by
  have hin : ∀ k, ((∃ b o p, hget h b = some o ∧ ι b = some p ∧ p.blk = k) ∨ w.heap.size ≤ k) → B k := fun k hk => by
    rcases hk with ⟨b, o, p, hb, hp, rfl⟩ | hk
    · exact S.mine b o p hb hp
    · exact S.newB k (Nat.le_trans S.size hk)
  exact ⟨S'.objs, S'.dom, S'.inj, hf, fun b o p hb hp => hin _ (S'.mine b o p hb hp), fun k hk => (S'.old k (fun h' => hk (hin k h'))).trans (S.old k hk), S.newB, Nat.le_trans S.size S'.size,
    S'.os.trans S.os, S'.tape.trans S.tape, S'.output.trans S.output⟩
end Go.Ev
