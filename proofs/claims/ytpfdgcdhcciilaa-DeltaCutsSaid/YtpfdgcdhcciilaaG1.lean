/- Words for memory: rows of bytes and of changes; appends of bytes. -/
import Derived.Test.YtpfdgcdhcciilaaF5
import Derived.Maps.AppendAt
import Derived.Deep.AppendLies
import Derived.Deep.RegionHeld3
import Derived.OwnWalk
namespace Go.Proofs.Ytpfdgcdhcciilaa
open Go.RowKit

theorem below_drewN {B : Nat} {a w : World} (h : Below B a w) (n : Nat) : Below B a (w.drewN n) := ⟨h.os, h.tape, h.output, h.size, h.block⟩
theorem bcell {W w1 : World} (hb : Below W.heap.size W w1) : (∀ b o, b < W.heap.size → w1.cell? ⟨b, o, none⟩ = W.cell? ⟨b, o, none⟩) ∧ (∀ b o, b < W.heap.size → w1.frozen? ⟨b, o, none⟩ = W.frozen? ⟨b, o, none⟩) :=
  ⟨fun b o h => hb.cell (p := ⟨b, o, none⟩) h, fun b o h => hb.frozen (p := ⟨b, o, none⟩) h⟩
theorem below_then {w a b : World} (h : Below w.heap.size w a) (k : Below a.heap.size a b) : Below w.heap.size w b := h.trans (k.mono h.size)
theorem below_alloc {w a : World} (h : Below w.heap.size w a) (o : Obj) : Below w.heap.size w (a.alloc o) := h.alloc h.size o
theorem below_set {w a : World} {p : Addr} (h : Below w.heap.size w a) (hp : w.heap.size ≤ p.block) (u : Value) : Below w.heap.size w (a.setCell p u) := h.setCell hp u
theorem grown_below {w w' : World} (hb : Below w.heap.size w w') (row : Option Nat) : w.grownBy w' row := ⟨hb.os, hb.tape, hb.output, hb.size, fun i hi _ => hb.block i hi⟩
theorem own_below {w w' : World} {base : Nat} {e : TypeId} {size : Nat} {v : Value} {n : Nat} {xs : List Value} (h : w.ownsRow base e size v n xs) (hb : Below w.heap.size w w') : w'.ownsRow base e size v n xs :=
  h.kept (row := none) (grown_below hb none) (Classical.em _)
theorem own_drew {w : World} {base : Nat} {e : TypeId} {size : Nat} {v : Value} {n : Nat} {xs : List Value} (h : w.ownsRow base e size v n xs) : w.drew.ownsRow base e size v n xs := h
theorem own_drewN {w : World} {base : Nat} {e : TypeId} {size : Nat} {v : Value} {n : Nat} {xs : List Value} (h : w.ownsRow base e size v n xs) (k : Nat) : (w.drewN k).ownsRow base e size v n xs := h
theorem own_base {w : World} {base base' : Nat} {e : TypeId} {size : Nat} {v : Value} {n : Nat} {xs : List Value} (h : w.ownsRow base e size v n xs) (hb : base' ≤ base) : w.ownsRow base' e size v n xs := by
  refine ⟨h.1, ?_⟩
  rcases h.2 with hn | ⟨g, cap, cur, hv, hg, rest⟩
  · exact .inl hn
  · exact .inr ⟨g, cap, cur, hv, by omega, rest⟩
/-- rows of unlike types lie apart -/
theorem own_apart {w : World} {b1 b2 : Nat} {e1 e2 : TypeId} {s1 s2 : Nat} {v1 v2 : Value} {n1 n2 : Nat} {x1 x2 : List Value} (h1 : w.ownsRow b1 e1 s1 v1 n1 x1) (h2 : w.ownsRow b2 e2 s2 v2 n2 x2) (hne : e1 ≠ e2) : v1.ownBlock = none ∨ v1.ownBlock ≠ v2.ownBlock := by
  rcases h1.2 with ⟨rfl, _⟩ | ⟨g1, c1, r1, rfl, _, hh1, _⟩
  · left; rfl
  · right
    rcases h2.2 with ⟨rfl, _⟩ | ⟨g2, c2, r2, rfl, _, hh2, _⟩
    · simp [Value.ownBlock]
    · intro he
      have : g1 = g2 := by simpa [Value.ownBlock] using he
      subst this
      rw [hh1] at hh2
      injection hh2 with hh2
      injection hh2 with _ ht
      exact hne ht

theorem bys_len (xs : List Nat) : (bys xs).length = xs.length := by simp [bys]
theorem bys_app (xs ys : List Nat) : bys (xs ++ ys) = bys xs ++ bys ys := by simp [bys]
theorem bys_one (xs : List Nat) : ∀ u ∈ bys xs, u.oneCell' = true := by
  intro u hu
  simp only [bys, List.mem_map] at hu
  obtain ⟨x, _, rfl⟩ := hu
  rfl
theorem add_at (b o j : Nat) : (⟨b, o, none⟩ : Addr).add j = ⟨b, o + j, none⟩ := by
  unfold Addr.add
  split
  · rename_i h; subst h; rfl
  · rfl
theorem Byt.nil (w : World) (A : Option Addr) : Byt w A [] := ⟨by simp, by simp⟩
theorem Byt.cells {w : World} {ad : Addr} {ys : List Nat} (h : Byt w (some ad) ys) : ∀ j u, (bys ys)[j]? = some u → w.cell? (ad.add j) = some u := by
  intro j u hu
  have hj : j < ys.length := by
    rcases Nat.lt_or_ge j ys.length with h | h
    · exact h
    · rw [List.getElem?_eq_none (by rw [bys_len]; exact h)] at hu; cases hu
  obtain ⟨b, off, e, hc⟩ := h.2 (by omega)
  injection e with e
  subst e
  have := hc j hj
  rw [add_at, this]
  simp [bys, hj] at hu
  rw [← hu, getD_at _ _ _ hj]
theorem Byt.grown {w w' : World} {A : Option Addr} {xs : List Nat} {row : Option Nat} (h : Byt w A xs) (hg : w.grownBy w' row) (hr : ∀ k, row = some k → (∀ b off, A = some ⟨b, off, none⟩ → b ≠ k)) : Byt w' A xs := by
  refine ⟨h.1, fun h0 => ?_⟩
  obtain ⟨b, off, e, hc⟩ := h.2 h0
  exact ⟨b, off, e, fun i hi => hg.cell (hc i hi) (fun e2 => hr b e2.symm b off e rfl)⟩
theorem Byt.drewN {w : World} {A : Option Addr} {xs : List Nat} (h : Byt w A xs) (n : Nat) : Byt (w.drewN n) A xs := h
theorem Byt.drew {w : World} {A : Option Addr} {xs : List Nat} (h : Byt w A xs) : Byt w.drew A xs := h
theorem Byt.of_own {w : World} {base : Nat} {v : Value} {xs : List Nat} (h : w.ownsRow base 5 1 v xs.length (bys xs)) (hx : ∀ x ∈ xs, x < 256) :
    ∃ A c, v = .slice A xs.length c ∧ Byt w A xs ∧ xs.length ≤ c ∧ c ≤ maxLen := by
  rcases h.2 with ⟨rfl, h0⟩ | ⟨g, cap, cur, rfl, hb, hg, hnc, hcm, hsz, ht⟩
  · obtain rfl : xs = [] := List.eq_nil_of_length_eq_zero h0
    exact ⟨none, 0, rfl, Byt.nil _ _, by simp, by decide⟩
  · refine ⟨_, _, rfl, ⟨hx, fun _ => ⟨g, 0, rfl, fun i hi => ?_⟩⟩, hnc, hcm⟩
    have hc := h.cells (g := g) rfl i (.int .u8 ((xs.getD i 0 : Nat) : Int)) (by simp [bys, hi])
    rw [add_at] at hc
    exact hc
/-- what is cut off in front -/
theorem Byt.take {w : World} {A : Option Addr} {xs : List Nat} (h : Byt w A xs) (k : Nat) : Byt w A (xs.take k) := by
  refine ⟨fun x hx => h.1 x (List.mem_of_mem_take hx), fun h0 => ?_⟩
  simp only [List.length_take] at h0
  obtain ⟨b, off, e, hc⟩ := h.2 (by omega)
  refine ⟨b, off, e, fun i hi => ?_⟩
  simp only [List.length_take] at hi
  rw [hc i (by omega)]
  simp [List.getD, show i < k by omega]
theorem Byt.drop {w : World} {A : Option Addr} {xs : List Nat} (h : Byt w A xs) (k c : Nat) (hk : k ≤ xs.length) (hc : xs.length ≤ c) : Byt w (if c = k then A else A.map (·.add k)) (xs.drop k) := by
  refine ⟨fun x hx => h.1 x (List.mem_of_mem_drop hx), fun h0 => ?_⟩
  simp only [List.length_drop] at h0
  obtain ⟨b, off, rfl, hce⟩ := h.2 (by omega)
  rw [if_neg (by omega)]
  refine ⟨b, off + k, by simp [add_at], fun i hi => ?_⟩
  simp only [List.length_drop] at hi
  rw [show off + k + i = off + (k + i) by omega, hce (k + i) (by omega)]
  simp [List.getD]

section
variable {w : World}
theorem run_append_byt (base : Nat) (ty : TypeId) (v : Value) (n : Nat) (xs : List Value) (hown : w.ownsRow base 5 1 v n xs) (A : Option Addr) (c : Nat) (ys : List Nat) (hB : Byt w A ys)
    (h63 : n + ys.length ≤ 140737488355328) (hbase : base ≤ w.heap.size) :
    ∃ v' w', (Builtin.append_ #[25, 25] ty #[v, .slice A ys.length c]).run Try.prog w = .ok v' w' ∧ w'.ownsRow base 5 1 v' (n + ys.length) (xs ++ bys ys) ∧ w.grownBy w' v.ownBlock ∧ (v'.ownBlock = v.ownBlock ∨ v'.ownBlock = some w.heap.size) := by
  obtain ⟨i0, hi0, hz0, hz1, hz2⟩ := info_parts byte_info
  rcases A with _ | ad
  · have hn : ys = [] := by
      rcases ys with _ | ⟨y, ys⟩
      · rfl
      · obtain ⟨b, off, h, _⟩ := hB.2 (by simp)
        cases h
    subst hn
    refine ⟨v, w, ?_, by simpa [bys] using hown, World.grownBy.refl w _, .inl rfl⟩
    have ht := Try.underlying25
    rcases hown.2 with ⟨rfl, rfl⟩ | ⟨g, cap, cur, rfl, _, _, hnc, _⟩
    · simp [Builtin.append_, run_underlying ht, sizeOf, typeInfo, hi0, Builtin.lenOf, Builtin.firstCells]
    · simp [Builtin.append_, run_underlying ht, sizeOf, typeInfo, hi0, Builtin.lenOf, Builtin.firstCells, hnc, storeCells]
  · obtain ⟨v', w', hrun, h2, h3, _, h5⟩ := run_append_own_at (P := Try.prog) w base 25 ty 5 i0 _ 1 1 Try.underlying25 hi0 hz0 hz1 hz2 rfl (by decide) v n xs hown ad ys.length c (bys ys) (by rw [bys_len, Nat.mul_one]) hB.cells (bys_one ys) (by unfold maxLen; omega) (by omega) hbase
    exact ⟨v', w', hrun, h2, h3, h5⟩
theorem wp_append_byt {o : Oper} {a : Act} {K : Act → World → Prop} {Q : Exit → Act → World → Prop} (s x : Operand)
    (ho : o.op = .call { callee := .builtin .append, args := #[s, x], argTypes := #[25, 25] })
    (base : Nat) (v : Value) (n : Nat) (xs : List Value) (hs : a.eval s = v) (hown : w.ownsRow base 5 1 v n xs)
    (A : Option Addr) (c : Nat) (ys : List Nat) (hx : a.eval x = .slice A ys.length c) (hB : Byt w A ys)
    (h63 : n + ys.length ≤ 140737488355328) (hbase : base ≤ w.heap.size)
    (h : ∀ v' w', w'.ownsRow base 5 1 v' (n + ys.length) (xs ++ bys ys) → w.grownBy w' v.ownBlock → (v'.ownBlock = v.ownBlock ∨ v'.ownBlock = some w.heap.size) → K (a.put o.dst v') w') : o.wp Try.prog a w K Q := by
  obtain ⟨v', w', hrun, h2, h3, h4⟩ := run_append_byt (w := w) base o.type v n xs hown A c ys hB h63 hbase
  unfold Oper.wp execOp
  simp only [ho, resolve, invoke, builtin, Sem.run_bind, Sem.run_pure, Result.andThen_ok, List.map_toArray, List.map_cons, List.map_nil, hs, hx, hrun]
  exact h v' w' h2 h3 h4
theorem wpList_append_byt {ops : Array Oper} {rest : List Oper} {o : Oper} {a : Act} {Q : Exit → Act → World → Prop} (hgd : o.guard = none) (s x : Operand)
    (ho : o.op = .call { callee := .builtin .append, args := #[s, x], argTypes := #[25, 25] })
    (base : Nat) (v : Value) (n : Nat) (xs : List Value) (hs : a.eval s = v) (hown : w.ownsRow base 5 1 v n xs)
    (A : Option Addr) (c : Nat) (ys : List Nat) (hx : a.eval x = .slice A ys.length c) (hB : Byt w A ys)
    (h63 : n + ys.length ≤ 140737488355328) (hbase : base ≤ w.heap.size)
    (h : ∀ v' w', w'.ownsRow base 5 1 v' (n + ys.length) (xs ++ bys ys) → w.grownBy w' v.ownBlock → (v'.ownBlock = v.ownBlock ∨ v'.ownBlock = some w.heap.size) → wpList Try.prog ops Q rest (a.put o.dst v') w') : wpList Try.prog ops Q (o :: rest) a w :=
  wpList_plain hgd fun _ hK => wp_append_byt s x ho base v n xs hs hown A c ys hx hB h63 hbase fun v' w' h2 h3 h4 => hK _ _ (h v' w' h2 h3 h4)
theorem step_append_byt {ops : Array Oper} {o : Oper} {a : Act} {K : Act → World → Prop} {Q : Exit → Act → World → Prop} {E : Prop} (hgd : o.guard = none) (s x : Operand)
    (ho : o.op = .call { callee := .builtin .append, args := #[s, x], argTypes := #[25, 25] })
    (base : Nat) (v : Value) (n : Nat) (xs : List Value) (hs : a.eval s = v) (hown : w.ownsRow base 5 1 v n xs)
    (A : Option Addr) (c : Nat) (ys : List Nat) (hx : a.eval x = .slice A ys.length c) (hB : Byt w A ys)
    (h63 : n + ys.length ≤ 140737488355328) (hbase : base ≤ w.heap.size)
    (h : ∀ v' w', w'.ownsRow base 5 1 v' (n + ys.length) (xs ++ bys ys) → w.grownBy w' v.ownBlock → (v'.ownBlock = v.ownBlock ∨ v'.ownBlock = some w.heap.size) → K (a.put o.dst v') w') :
    if Region.wanted o (yielded ops a.tmps) = true then Oper.wp Try.prog o a w K Q else E := by
  have hw : Region.wanted o (yielded ops a.tmps) = true := by simp [Region.wanted, hgd]
  rw [if_pos hw]
  exact wp_append_byt s x ho base v n xs hs hown A c ys hx hB h63 hbase h
end

/-- changes as cells: three each -/
def Row3 (D : Value → List Nat → Prop) : List Chg → List Value → Prop
  | [], rows => rows = []
  | c :: cs, rows => ∃ v rest, rows = Value.int .i64 c.bay :: Value.int .u32 ((c.old : Nat) : Int) :: v :: rest ∧ c.old < 4294967296 ∧ D v c.data ∧ Row3 D cs rest
theorem Row3.snoc {D : Value → List Nat → Prop} {cs : List Chg} {c : Chg} {rows : List Value} {v : Value} (h : Row3 D cs rows) (ho : c.old < 4294967296) (hd : D v c.data) :
    Row3 D (cs ++ [c]) (rows ++ [Value.int .i64 c.bay, Value.int .u32 ((c.old : Nat) : Int), v]) := by
  induction cs generalizing rows with
  | nil => obtain rfl : rows = [] := h; exact ⟨v, [], rfl, ho, hd, rfl⟩
  | cons a cs ih =>
    obtain ⟨u, rest, rfl, h1, h2, h3⟩ := h
    exact ⟨u, rest ++ [_, _, _], rfl, h1, h2, ih h3⟩
theorem Row3.mono {D D' : Value → List Nat → Prop} {cs : List Chg} {rows : List Value} (h : Row3 D cs rows) (hd : ∀ v xs, D v xs → D' v xs) : Row3 D' cs rows := by
  induction cs generalizing rows with
  | nil => exact h
  | cons a cs ih =>
    obtain ⟨u, rest, e, h1, h2, h3⟩ := h
    exact ⟨u, rest, e, h1, hd _ _ h2, ih h3⟩
theorem Row3.len {D : Value → List Nat → Prop} {cs : List Chg} {rows : List Value} (h : Row3 D cs rows) : rows.length = cs.length * 3 := by
  induction cs generalizing rows with
  | nil => obtain rfl : rows = [] := h; rfl
  | cons a cs ih =>
    obtain ⟨u, rest, rfl, h1, h2, h3⟩ := h
    have := ih h3
    simp [this]
    omega
theorem Row3.at_ {D : Value → List Nat → Prop} {cs : List Chg} {rows : List Value} (h : Row3 D cs rows) (i : Nat) (hi : i < cs.length) :
    rows[i * 3]? = some (.int .i64 (cs.getD i default).bay) ∧ rows[i * 3 + 1]? = some (.int .u32 (((cs.getD i default).old : Nat) : Int)) ∧ (cs.getD i default).old < 4294967296 ∧ ∃ v, rows[i * 3 + 2]? = some v ∧ D v (cs.getD i default).data := by
  induction cs generalizing rows i with
  | nil => simp at hi
  | cons a cs ih =>
    obtain ⟨u, rest, rfl, h1, h2, h3⟩ := h
    rcases i with _ | i
    · exact ⟨rfl, rfl, h1, u, rfl, h2⟩
    · have := ih h3 i (by simpa using hi)
      rw [show (i + 1) * 3 = i * 3 + 3 by omega]
      simpa using this
def bytD (w : World) (v : Value) (xs : List Nat) : Prop := ∃ P c, v = .slice P xs.length c ∧ Byt w P xs
def ownD (w : World) (base : Nat) (v : Value) (xs : List Nat) : Prop := (∀ x ∈ xs, x < 256) ∧ w.ownsRow base 5 1 v xs.length (bys xs)
theorem ownD.byt {w : World} {base : Nat} {v : Value} {xs : List Nat} (h : ownD w base v xs) : bytD w v xs := by
  obtain ⟨A, c, e, hb, _⟩ := Byt.of_own h.2 h.1
  exact ⟨A, c, e, hb⟩
theorem chs_of_own {w : World} {base : Nat} {e : TypeId} {v : Value} {cs : List Chg} {rows : List Value} (h : w.ownsRow base e 3 v cs.length rows) (hr : Row3 (bytD w) cs rows) :
    ∃ A c, v = .slice A cs.length c ∧ Chs w A cs := by
  rcases h.2 with ⟨rfl, h0⟩ | ⟨g, cap, cur, rfl, hb, hg, hnc, hcm, hsz, ht⟩
  · obtain rfl : cs = [] := List.eq_nil_of_length_eq_zero h0
    exact ⟨none, 0, rfl, fun h => absurd h (by simp)⟩
  · refine ⟨_, _, rfl, fun _ => ⟨g, 0, rfl, fun i hi => ?_⟩⟩
    obtain ⟨h1, h2, h3, v, h4, P, c, rfl, h5⟩ := hr.at_ i hi
    have hc := h.cells (g := g) rfl
    have e1 := hc _ _ h1
    have e2 := hc _ _ h2
    have e4 := hc _ _ h4
    rw [add_at] at e1 e2 e4
    exact ⟨e1, by rw [show 0 + i * 3 + 1 = 0 + (i * 3 + 1) by omega]; exact e2, h3, P, c, by rw [show 0 + i * 3 + 2 = 0 + (i * 3 + 2) by omega]; exact e4, h5⟩
theorem news3 {w : World} {b : Nat} {t : TypeId} {x y z : Value} (h : w.heap[b]? = some (.cells #[x, y, z] t (0, 0))) : ∀ j u, [x, y, z][j]? = some u → w.cell? ((⟨b, 0, none⟩ : Addr).add j) = some u := by
  intro j u hu
  rw [add_at, Nat.zero_add, cell_of_row w b j _ t (0, 0) h]
  simpa using hu
end Go.Proofs.Ytpfdgcdhcciilaa
