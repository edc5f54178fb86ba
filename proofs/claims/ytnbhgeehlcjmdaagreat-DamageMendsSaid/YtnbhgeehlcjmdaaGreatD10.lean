/- Parts of a box, and chunks, as memory holds them. -/
import Derived.Test.YtnbhgeehlcjmdaaGreatD8
namespace Go.Proofs.YtnbhgeehlcjmdaaGreat
open Go.RowKit

structure Prt where
  kind : Nat
  data : List Nat
  start : Int
  whole : Bool
instance : Inhabited Prt := ⟨⟨0, [], 0, false⟩⟩
/-- parts as cells: four each -/
def RowP (D : Value → List Nat → Prop) : List Prt → List Value → Prop
  | [], rows => rows = []
  | p :: ps, rows => ∃ v rest, rows = Value.int .u8 ((p.kind : Nat) : Int) :: v :: Value.int .i64 p.start :: Value.bool p.whole :: rest ∧ p.kind < 256 ∧ D v p.data ∧ RowP D ps rest
theorem RowP.snoc {D : Value → List Nat → Prop} {ps : List Prt} {p : Prt} {rows : List Value} {v : Value} (h : RowP D ps rows) (ho : p.kind < 256) (hd : D v p.data) :
    RowP D (ps ++ [p]) (rows ++ [Value.int .u8 ((p.kind : Nat) : Int), v, Value.int .i64 p.start, Value.bool p.whole]) := by
  induction ps generalizing rows with
  | nil => obtain rfl : rows = [] := h; exact ⟨v, [], rfl, ho, hd, rfl⟩
  | cons a ps ih =>
    obtain ⟨u, rest, rfl, h1, h2, h3⟩ := h
    exact ⟨u, rest ++ [_, _, _, _], rfl, h1, h2, ih h3⟩
theorem RowP.mono {D D' : Value → List Nat → Prop} {ps : List Prt} {rows : List Value} (h : RowP D ps rows) (hd : ∀ v xs, D v xs → D' v xs) : RowP D' ps rows := by
  induction ps generalizing rows with
  | nil => exact h
  | cons a ps ih =>
    obtain ⟨u, rest, e, h1, h2, h3⟩ := h
    exact ⟨u, rest, e, h1, hd _ _ h2, ih h3⟩
theorem RowP.len {D : Value → List Nat → Prop} {ps : List Prt} {rows : List Value} (h : RowP D ps rows) : rows.length = ps.length * 4 := by
  induction ps generalizing rows with
  | nil => obtain rfl : rows = [] := h; rfl
  | cons a ps ih =>
    obtain ⟨u, rest, rfl, h1, h2, h3⟩ := h
    have := ih h3
    simp [this]
    omega
theorem RowP.at_ {D : Value → List Nat → Prop} {ps : List Prt} {rows : List Value} (h : RowP D ps rows) (i : Nat) (hi : i < ps.length) :
    rows[i * 4]? = some (.int .u8 (((ps.getD i default).kind : Nat) : Int)) ∧ (ps.getD i default).kind < 256 ∧ (∃ v, rows[i * 4 + 1]? = some v ∧ D v (ps.getD i default).data) ∧
      rows[i * 4 + 2]? = some (.int .i64 (ps.getD i default).start) ∧ rows[i * 4 + 3]? = some (.bool (ps.getD i default).whole) := by
  induction ps generalizing rows i with
  | nil => simp at hi
  | cons a ps ih =>
    obtain ⟨u, rest, rfl, h1, h2, h3⟩ := h
    rcases i with _ | i
    · exact ⟨rfl, h1, ⟨u, rfl, h2⟩, rfl, rfl⟩
    · have := ih h3 i (by simpa using hi)
      rw [show (i + 1) * 4 = i * 4 + 4 by omega]
      simpa using this
/-- chunks as cells: two each -/
def RowC (D : Value → List Nat → Prop) : List (Nat × List Nat) → List Value → Prop
  | [], rows => rows = []
  | p :: ps, rows => ∃ v rest, rows = Value.int .u8 ((p.1 : Nat) : Int) :: v :: rest ∧ p.1 < 256 ∧ D v p.2 ∧ RowC D ps rest
theorem RowC.snoc {D : Value → List Nat → Prop} {ps : List (Nat × List Nat)} {p : Nat × List Nat} {rows : List Value} {v : Value} (h : RowC D ps rows) (ho : p.1 < 256) (hd : D v p.2) :
    RowC D (ps ++ [p]) (rows ++ [Value.int .u8 ((p.1 : Nat) : Int), v]) := by
  induction ps generalizing rows with
  | nil => obtain rfl : rows = [] := h; exact ⟨v, [], rfl, ho, hd, rfl⟩
  | cons a ps ih =>
    obtain ⟨u, rest, rfl, h1, h2, h3⟩ := h
    exact ⟨u, rest ++ [_, _], rfl, h1, h2, ih h3⟩
theorem RowC.mono {D D' : Value → List Nat → Prop} {ps : List (Nat × List Nat)} {rows : List Value} (h : RowC D ps rows) (hd : ∀ v xs, D v xs → D' v xs) : RowC D' ps rows := by
  induction ps generalizing rows with
  | nil => exact h
  | cons a ps ih =>
    obtain ⟨u, rest, e, h1, h2, h3⟩ := h
    exact ⟨u, rest, e, h1, hd _ _ h2, ih h3⟩
theorem RowC.len {D : Value → List Nat → Prop} {ps : List (Nat × List Nat)} {rows : List Value} (h : RowC D ps rows) : rows.length = ps.length * 2 := by
  induction ps generalizing rows with
  | nil => obtain rfl : rows = [] := h; rfl
  | cons a ps ih =>
    obtain ⟨u, rest, rfl, h1, h2, h3⟩ := h
    have := ih h3
    simp [this]
    omega
theorem RowC.at_ {D : Value → List Nat → Prop} {ps : List (Nat × List Nat)} {rows : List Value} (h : RowC D ps rows) (i : Nat) (hi : i < ps.length) :
    rows[i * 2]? = some (.int .u8 (((ps.getD i default).1 : Nat) : Int)) ∧ (ps.getD i default).1 < 256 ∧ (∃ v, rows[i * 2 + 1]? = some v ∧ D v (ps.getD i default).2) := by
  induction ps generalizing rows i with
  | nil => simp at hi
  | cons a ps ih =>
    obtain ⟨u, rest, rfl, h1, h2, h3⟩ := h
    rcases i with _ | i
    · exact ⟨rfl, h1, ⟨u, rfl, h2⟩⟩
    · have := ih h3 i (by simpa using hi)
      rw [show (i + 1) * 2 = i * 2 + 2 by omega]
      simpa using this
def bytD (w : World) (v : Value) (xs : List Nat) : Prop := ∃ P c, v = .slice P xs.length c ∧ Byt w P xs ∧ xs.length ≤ c
theorem ownD.byt {w : World} {base : Nat} {v : Value} {xs : List Nat} (h : ownD w base v xs) : bytD w v xs := by
  obtain ⟨A, c, e, hb, hc, _⟩ := Byt.of_own h.2 h.1
  exact ⟨A, c, e, hb, hc⟩
/-- parts, as a slice holds them -/
def Prs (w : World) (A : Option Addr) (ps : List Prt) : Prop :=
  0 < ps.length → ∃ b off, A = some ⟨b, off, none⟩ ∧ ∀ i, i < ps.length → w.cell? ⟨b, off + i * 4, none⟩ = some (.int .u8 (((ps.getD i default).kind : Nat) : Int)) ∧ (ps.getD i default).kind < 256 ∧
    (∃ P c, w.cell? ⟨b, off + i * 4 + 1, none⟩ = some (.slice P (ps.getD i default).data.length c) ∧ Byt w P (ps.getD i default).data ∧ (ps.getD i default).data.length ≤ c) ∧
    w.cell? ⟨b, off + i * 4 + 2, none⟩ = some (.int .i64 (ps.getD i default).start) ∧ w.cell? ⟨b, off + i * 4 + 3, none⟩ = some (.bool (ps.getD i default).whole)
/-- chunks, as a slice holds them -/
def Cks (w : World) (A : Option Addr) (ps : List (Nat × List Nat)) : Prop :=
  0 < ps.length → ∃ b off, A = some ⟨b, off, none⟩ ∧ ∀ i, i < ps.length → w.cell? ⟨b, off + i * 2, none⟩ = some (.int .u8 (((ps.getD i default).1 : Nat) : Int)) ∧ (ps.getD i default).1 < 256 ∧
    (∃ P c, w.cell? ⟨b, off + i * 2 + 1, none⟩ = some (.slice P (ps.getD i default).2.length c) ∧ Byt w P (ps.getD i default).2 ∧ (ps.getD i default).2.length ≤ c)
theorem prs_of_own {w : World} {base : Nat} {e : TypeId} {v : Value} {ps : List Prt} {rows : List Value} (h : w.ownsRow base e 4 v ps.length rows) (hr : RowP (bytD w) ps rows) :
    ∃ A c, v = .slice A ps.length c ∧ Prs w A ps := by
  rcases h.2 with ⟨rfl, h0⟩ | ⟨g, cap, cur, rfl, hb, hg, hnc, hcm, hsz, ht⟩
  · obtain rfl : ps = [] := List.eq_nil_of_length_eq_zero h0
    exact ⟨none, 0, rfl, fun h => absurd h (by simp)⟩
  · refine ⟨_, _, rfl, fun _ => ⟨g, 0, rfl, fun i hi => ?_⟩⟩
    obtain ⟨h1, h2, ⟨v, h4, P, c, rfl, h5, h5b⟩, h6, h7⟩ := hr.at_ i hi
    have hc := h.cells (g := g) rfl
    have e1 := hc _ _ h1
    have e4 := hc _ _ h4
    have e6 := hc _ _ h6
    have e7 := hc _ _ h7
    rw [add_at] at e1 e4 e6 e7
    exact ⟨e1, h2, ⟨P, c, by rw [show 0 + i * 4 + 1 = 0 + (i * 4 + 1) by omega]; exact e4, h5, h5b⟩, by rw [show 0 + i * 4 + 2 = 0 + (i * 4 + 2) by omega]; exact e6, by rw [show 0 + i * 4 + 3 = 0 + (i * 4 + 3) by omega]; exact e7⟩
theorem cks_of_own {w : World} {base : Nat} {e : TypeId} {v : Value} {ps : List (Nat × List Nat)} {rows : List Value} (h : w.ownsRow base e 2 v ps.length rows) (hr : RowC (bytD w) ps rows) :
    ∃ A c, v = .slice A ps.length c ∧ Cks w A ps := by
  rcases h.2 with ⟨rfl, h0⟩ | ⟨g, cap, cur, rfl, hb, hg, hnc, hcm, hsz, ht⟩
  · obtain rfl : ps = [] := List.eq_nil_of_length_eq_zero h0
    exact ⟨none, 0, rfl, fun h => absurd h (by simp)⟩
  · refine ⟨_, _, rfl, fun _ => ⟨g, 0, rfl, fun i hi => ?_⟩⟩
    obtain ⟨h1, h2, v, h4, P, c, rfl, h5, h5b⟩ := hr.at_ i hi
    have hc := h.cells (g := g) rfl
    have e1 := hc _ _ h1
    have e4 := hc _ _ h4
    rw [add_at] at e1 e4
    exact ⟨e1, h2, P, c, by rw [show 0 + i * 2 + 1 = 0 + (i * 2 + 1) by omega]; exact e4, h5, h5b⟩
theorem Prs.below {w w' : World} {A : Option Addr} {ps : List Prt} (h : Prs w A ps) (hb : Below w.heap.size w w') : Prs w' A ps := fun h0 => by
  obtain ⟨b, off, e, hc⟩ := h h0
  refine ⟨b, off, e, fun i hi => ?_⟩
  obtain ⟨h1, h2, ⟨P, c, h3, h4, h4b⟩, h5, h6⟩ := hc i hi
  exact ⟨(hb.cell (World.block_lt_of_cell? _ _ h1)).trans h1, h2, ⟨P, c, (hb.cell (World.block_lt_of_cell? _ _ h3)).trans h3, h4.below hb, h4b⟩, (hb.cell (World.block_lt_of_cell? _ _ h5)).trans h5, (hb.cell (World.block_lt_of_cell? _ _ h6)).trans h6⟩
theorem Cks.below {w w' : World} {A : Option Addr} {ps : List (Nat × List Nat)} (h : Cks w A ps) (hb : Below w.heap.size w w') : Cks w' A ps := fun h0 => by
  obtain ⟨b, off, e, hc⟩ := h h0
  refine ⟨b, off, e, fun i hi => ?_⟩
  obtain ⟨h1, h2, P, c, h3, h4, h4b⟩ := hc i hi
  exact ⟨(hb.cell (World.block_lt_of_cell? _ _ h1)).trans h1, h2, P, c, (hb.cell (World.block_lt_of_cell? _ _ h3)).trans h3, h4.below hb, h4b⟩
theorem part_info : (Tryz.prog.info? 37).map (fun i => (i.zero, i.size, i.bytes)) = some (some (.agg #[.int .u8 0, .slice none 0 0, .int .i64 0, .bool false]), 4, 48) := by kernel_rfl
theorem chunk_info : (Tryz.prog.info? 27).map (fun i => (i.zero, i.size, i.bytes)) = some (some (.agg #[.int .u8 0, .slice none 0 0]), 2, 32) := by kernel_rfl
theorem newsL {w : World} {b : Nat} {t : TypeId} {l : List Value} (h : w.heap[b]? = some (.cells l.toArray t (0, 0))) : ∀ j u, l[j]? = some u → w.cell? ((⟨b, 0, none⟩ : Addr).add j) = some u := by
  intro j u hu
  rw [add_at, Nat.zero_add, cell_of_row w b j _ t (0, 0) h]
  simpa using hu
end Go.Proofs.YtnbhgeehlcjmdaaGreat
/-! Blocks of slices of bytes. -/
namespace Go.Proofs.YtnbhgeehlcjmdaaGreat
open Go.RowKit

theorem newsA {w : World} {b : Nat} {t : TypeId} {l : List Value} (h : b = w.heap.size) : ∀ j u, l[j]? = some u → (w.alloc (.cells l.toArray t)).cell? ((⟨b, 0, none⟩ : Addr).add j) = some u := by
  subst h
  exact newsL (t := t) (heap_alloc_new w _)
theorem Blk.frozen {w : World} {g : Nat} {t : TypeId} {cs : Array Value} (h : Blk w g t cs) (i : Nat) : w.frozen? ⟨g, i, none⟩ = false := by
  unfold Blk at h
  simp [World.frozen?, h]
theorem Blk.set {w : World} {g : Nat} {t : TypeId} {cs : Array Value} (h : Blk w g t cs) (i : Nat) (u : Value) : Blk (w.setCell ⟨g, i, none⟩ u) g t (cs.setIfInBounds i u) := by
  unfold Blk at h ⊢
  simp [World.setCell, Array.getElem?_modify, h]
/-- values that are slices of these rows of bytes -/
def RwsV (w : World) : List (List Nat) → List Value → Prop
  | [], vs => vs = []
  | x :: xs, vs => ∃ v rest, vs = v :: rest ∧ bytD w v x ∧ RwsV w xs rest
theorem RwsV.at_ {w : World} {ls : List (List Nat)} {vs : List Value} (h : RwsV w ls vs) (i : Nat) (hi : i < ls.length) : ∃ v, vs[i]? = some v ∧ bytD w v (ls.getD i []) := by
  induction ls generalizing vs i with
  | nil => simp at hi
  | cons a ps ih =>
    obtain ⟨v, rest, rfl, h1, h2⟩ := h
    rcases i with _ | i
    · exact ⟨v, rfl, h1⟩
    · simpa using ih h2 i (by simpa using hi)
/-- rows of bytes as a block of slices holds them -/
theorem rws_blk {w : World} {g : Nat} {t : TypeId} {vs : List Value} {ls : List (List Nat)} (hK : Blk w g t vs.toArray) (h : RwsV w ls vs) : Rws w (some ⟨g, 0, none⟩) ls := fun _ => by
  refine ⟨g, 0, rfl, fun i hi => ?_⟩
  obtain ⟨v, e1, P, c, rfl, hb, _⟩ := h.at_ i hi
  refine ⟨P, c, ?_, hb⟩
  rw [hK.cell, Nat.zero_add]
  simpa using e1
theorem concat2 (W : World) (g n1 c1 n2 c2 : Nat) (P1 P2 : Option Addr) (x1 x2 : List Nat) (h1 : Byt W P1 x1) (h2 : Byt W P2 x2) (e1 : x1.length = n1) (e2 : x2.length = n2) (k1 : n1 ≤ c1) (k2 : n2 ≤ c2) (hK : Blk W g 25 #[.slice P1 n1 c1, .slice P2 n2 c2])
    (hl : n1 + n2 ≤ 10000000) : Calls Tryz.prog 14 #[.slice (some ⟨g, 0, none⟩) 2 2] W fun e w' => ∃ P c, e = .returned (.slice P (n1 + n2) c) ∧ Byt w' P (x1 ++ x2) ∧ n1 + n2 ≤ c ∧ Below W.heap.size W w' := by
  subst e1 e2
  have hc : catTo [x1, x2] 2 = x1 ++ x2 := by simp [catTo]
  refine (concat_n (some ⟨g, 0, none⟩) 2 2 [x1, x2] W (rws_blk (vs := [_, _]) hK ⟨_, _, rfl, ⟨P1, c1, rfl, h1, k1⟩, _, _, rfl, ⟨P2, c2, rfl, h2, k2⟩, rfl⟩) rfl (by omega) (by rw [hc]; simp; omega)).mono ?_
  rintro e w' ⟨v, rfl, hown, hb⟩
  rw [hc] at hown
  obtain ⟨P, c, rfl, hB, hle, _⟩ := Byt.of_own hown (fun x hx => (List.mem_append.1 hx).elim (h1.1 x) (h2.1 x))
  rw [List.length_append] at hle ⊢
  exact ⟨P, c, rfl, hB, hle, hb⟩
theorem grown_setCell (w : World) (a : Addr) (u : Value) : w.grownBy (w.setCell a u) (some a.block) := by
  exact ⟨rfl, rfl, rfl, by simp, fun k _ hk => heap_setCell_other w a k u (fun e => hk (by rw [e]))⟩
theorem own_set {w : World} {p : Addr} {t : TypeId} {cs : Array Value} {base : Nat} {e : TypeId} {size n : Nat} {v : Value} {xs : List Value} (h : w.ownsRow base e size v n xs) (hK : Blk w p.block t cs) (hne : e ≠ t) (u : Value) : (w.setCell p u).ownsRow base e size v n xs :=
  own_blk h hK (grown_setCell w p u) hne
theorem blk4 {w : World} {g : Nat} {t : TypeId} {a b c d : Value} (h : Blk w g t #[a, b, c, d]) :
    w.cell? ⟨g, 0, none⟩ = some a ∧ w.cell? ⟨g, 1, none⟩ = some b ∧ w.cell? ⟨g, 2, none⟩ = some c ∧ w.cell? ⟨g, 3, none⟩ = some d ∧ (w.frozen? ⟨g, 0, none⟩ = false ∧ w.frozen? ⟨g, 1, none⟩ = false ∧ w.frozen? ⟨g, 2, none⟩ = false ∧ w.frozen? ⟨g, 3, none⟩ = false) :=
  ⟨h.cell 0, h.cell 1, h.cell 2, h.cell 3, h.frozen 0, h.frozen 1, h.frozen 2, h.frozen 3⟩
theorem elem25 : Tryz.prog.elem 25 = 5 := by kernel_rfl
theorem size5 (W : World) : (sizeOf 5).run Tryz.prog W = .ok 1 W := by
  obtain ⟨i0, hi0, _, hz1, _⟩ := info_parts byte_info
  have := run_sizeOf hi0 (w := W)
  rw [this]
  simp [Program.cellsOf, hi0, hz1]
theorem sl_lh {a : Option Addr} {n c q m : Nat} (h : q + m ≤ c) (W : World) :
    (Instr.slice 25 (.slice a n c) (some (.int .i64 (q : Int))) (some (.int .i64 ((q : Int) + (m : Int)))) none).run Tryz.prog W = .ok (.slice (if c = q then a else a.map (·.add q)) m (c - q)) W := by
  rw [run_slice_lh W 25 a n c (by rw [elem25]; exact Tryz.underlying25) .i64 .i64 _ _ (by omega) (by omega) (by omega), elem25, size5]
  simp only [Result.andThen, sliced, Nat.mul_one]
  rw [show ((q : Int) + (m : Int)).toNat = q + m by omega, show ((q : Int)).toNat = q by omega, Nat.add_sub_cancel_left]
theorem sl_l {a : Option Addr} {n c q : Nat} (h : q ≤ n) (W : World) :
    (Instr.slice 25 (.slice a n c) (some (.int .i64 (q : Int))) none none).run Tryz.prog W = .ok (.slice (if c = q then a else a.map (·.add q)) (n - q) (c - q)) W := by
  rw [run_slice_l W 25 a n c (by rw [elem25]; exact Tryz.underlying25) .i64 _ (by omega) (by omega), elem25, size5]
  simp only [Result.andThen, sliced, Nat.mul_one]
  rw [show ((q : Int)).toNat = q by omega]
end Go.Proofs.YtnbhgeehlcjmdaaGreat
