/- Proved here: a call that was made before: its spec, wherever it is made again. -/
import Derived.Test.YtnbhgeehlcjmdaaGreatV32
namespace Go.Ev.F
open Go Go.Ev

/-- an entry's numbers are those of its blocks -/
def inHin (e : Ent) (b : Nat) : Bool := e.hin.any fun p => Nat.beq p.1 b
def entWF (e : Ent) : Bool := (e.hin.all fun p => decide (p.1 < e.n0) && idsO (inHin e) p.2) && idsL (inHin e) e.args &&
  idsV (fun b => inHin e b || decide (e.n0 ≤ b ∧ b < e.n0 + e.new.length)) e.res && e.new.all (idsO fun b => inHin e b || decide (e.n0 ≤ b ∧ b < e.n0 + e.new.length))
theorem inHin_spec {e : Ent} {b : Nat} (h : inHin e b = true) : ∃ o, (b, o) ∈ e.hin := by
  unfold inHin at h
  rw [List.any_eq_true] at h
  obtain ⟨p, hp, hb⟩ := h
  have := Nat.eq_of_beq_eq_true hb
  subst this
  exact ⟨p.2, hp⟩
theorem inHin_mem {e : Ent} {b : Nat} {o : Obj} (h : (b, o) ∈ e.hin) : inHin e b = true := by
  unfold inHin
  rw [List.any_eq_true]
  exact ⟨(b, o), h, Nat.beq_refl _⟩
theorem renGet_id : ∀ {l : List (Nat × Obj)} {b c : Nat}, renGet (l.map fun p => (p.1, p.1)) b = some c → c = b
  | [], b, c, h => by simp [renGet] at h
  | p :: l, b, c, h => by
    simp only [List.map_cons, renGet] at h
    split at h
    · rename_i e
      have := Nat.eq_of_beq_eq_true e
      simp at h; rw [← h, this]
    · exact renGet_id h
theorem renGet_id_mem : ∀ {l : List (Nat × Obj)} {b : Nat} {o : Obj}, (b, o) ∈ l → renGet (l.map fun p => (p.1, p.1)) b = some b
  | p :: l, b, o, h => by
    simp only [List.map_cons, renGet]
    split
    · rename_i e
      rw [Nat.eq_of_beq_eq_true e]
    · rename_i e
      rcases List.mem_cons.1 h with rfl | h
      · exact absurd (Nat.beq_refl _) e
      · exact renGet_id_mem h
theorem numbered_mem : ∀ {l : List Obj} {n i : Nat} {o : Obj}, l[i]? = some o → (n + i, o) ∈ numbered n l
  | [], _, _, _, h => by simp at h
  | q :: r, n, 0, o, h => by simp at h; subst h; simp [numbered]
  | q :: r, n, i + 1, o, h => by
    simp only [numbered]
    refine List.mem_cons_of_mem _ ?_
    have := numbered_mem (n := n + 1) (l := r) (i := i) (o := o) (by simpa using h)
    rw [show n + (i + 1) = n + 1 + i by omega]; exact this
theorem hinH_spec {l : List (Nat × Obj)} {b : Nat} {o : Obj} (h : hget (upsH .e (l.map fun p => (p.1, some p.2))) b = some o) : (b, o) ∈ l := by
  rcases hget_upsH h with h1 | h1
  · obtain ⟨p, hp, he⟩ := List.mem_map.1 h1
    cases he
    exact hp
  · rw [hget_e] at h1; cases h1

theorem finK_inv {e : Ent} {v : AV} {h : HT} {n : Nat} (hf : finK e v h n ≠ .fail) : ∃ ρ2 ρ3, fit2 e.res v (e.hin.map fun p => (p.1, p.1)) = some ρ2 ∧ fitH h (e.hin ++ numbered e.n0 e.new) ρ2 = some ρ3 := by
  unfold finK at hf
  cases h2 : fit2 e.res v (e.hin.map fun p => (p.1, p.1)) with
  | none => rw [h2] at hf; exact absurd rfl hf
  | some ρ2 =>
    rw [h2] at hf
    simp only at hf
    cases h3 : fitH h (e.hin ++ numbered e.n0 e.new) ρ2 with
    | none => rw [h3] at hf; exact absurd rfl hf
    | some ρ3 => exact ⟨ρ2, ρ3, rfl, h3⟩

theorem ent_spec {e : Ent} {v : AV} {h' : HT} {nx' : Nat} (hwf : entWF e = true) (hcall : CallSpec e.fi e.args (upsH .e (e.hin.map fun p => (p.1, some p.2))) e.n0 v h' nx') (hfin : finK e v h' nx' ≠ .fail)
    (args : List AV) (h : HT) (nx : Nat) (q : AV × Ups × Nat) (ht : tryEnt e args h nx = some q) : CallSpec e.fi args h nx q.1 (upsH h q.2.1) q.2.2 := by
  obtain ⟨ρ2, ρ3, hf2, hf3⟩ := finK_inv hfin
  have s2 := fit2_spec hf2
  obtain ⟨t1, t2, t3, _⟩ := fitH_spec hf3
  unfold entWF at hwf
  simp only [Bool.and_eq_true, List.all_eq_true, decide_eq_true_eq] at hwf
  obtain ⟨⟨⟨w1, w2⟩, w3⟩, w4⟩ := hwf
  unfold tryEnt at ht
  cases hρ1 : fitL fit1 e.args args [] with
  | none => rw [hρ1] at ht; cases ht
  | some ρ1 =>
  rw [hρ1] at ht
  simp only at ht
  cases hρ : fitH h e.hin ρ1 with
  | none => rw [hρ] at ht; cases ht
  | some ρ =>
  rw [hρ] at ht
  simp only at ht
  cases hva : ren2 ρ e.n0 nx e.res with
  | none => rw [hva] at ht; cases ht
  | some va =>
  cases hu : newUps ρ e.n0 nx nx e.new with
  | none => rw [hva, hu] at ht; cases ht
  | some u =>
  rw [hva, hu] at ht
  simp at ht; subst ht
  have sa := fitL_spec (fun _ _ _ _ => fit1_spec) hρ1
  obtain ⟨f1, f2, f3, f4⟩ := fitH_spec hρ
  have hinj : Inj ρ := f2 (sa.inj (fun a b c h _ => by simp [renGet] at h))
  have hinj3 : Inj ρ3 := t2 (s2.inj (fun a b c ha hb => by rw [← renGet_id ha, ← renGet_id hb]))
  have hid : ∀ b o, (b, o) ∈ e.hin → renGet ρ3 b = some b := fun b o hb => t1 _ _ (s2.sub _ _ (renGet_id_mem hb))
  refine ⟨hcall.1, Nat.le_add_right _ _, fun B w0 ι w vs S hhi hv => ?_⟩
  dsimp only at hhi
  have hmaps : MapsTo ι ρ := f4 ι (fun b o p hb hp => ⟨p, _, S.objs b o p hb hp⟩) (sa.maps ι _ hv (fun b c h => by simp [renGet] at h))
  -- the entry's own map
  let ι1 : Mp := fun b => (cutS (inHin e) (renGet ρ) b).bind ι
  have hι1 : ∀ b p, ι1 b = some p → ∃ c o, (b, o) ∈ e.hin ∧ renGet ρ b = some c ∧ ι c = some p := fun b p hb => by
    have hb' : (cutS (inHin e) (renGet ρ) b).bind ι = some p := hb
    cases hc : cutS (inHin e) (renGet ρ) b with
    | none => rw [hc] at hb'; cases hb'
    | some c =>
      rw [hc] at hb'
      obtain ⟨k1, k2⟩ := cutS_spec hc
      obtain ⟨o, ho⟩ := inHin_spec k1
      exact ⟨c, o, ho, k2, hb'⟩
  have hι1' : ∀ b o c p, (b, o) ∈ e.hin → renGet ρ b = some c → ι c = some p → ι1 b = some p := fun b o c p hb hc hp => by
    show (cutS (inHin e) (renGet ρ) b).bind ι = some p
    rw [cutS_mk (inHin_mem hb) hc]; exact hp
  have hback : ∀ b c q, cutS (inHin e) (renGet ρ) b = some c → ι c = some q → ι1 b = some q := fun b c q hb hq => by
    show (cutS (inHin e) (renGet ρ) b).bind ι = some q
    rw [hb]; exact hq
  have S1 : Sim (Loc (upsH .e (e.hin.map fun p => (p.1, some p.2))) ι1 w nx') w ι1 (upsH .e (e.hin.map fun p => (p.1, some p.2))) e.n0 w := by
    refine ⟨fun b o p hb hp => ?_, fun b o hb => (w1 _ (hinH_spec hb)).1, fun b c o o' p q hb hc hp hq hpq => ?_, fun b hb _ => ?_, fun b o p hb hp => .inl ⟨b, o, p, hb, hp, rfl⟩, fun _ _ => rfl, fun _ hk => .inr hk, Nat.le_refl _, rfl, rfl, rfl⟩
    · obtain ⟨c, o1, _, g2, g3⟩ := hι1 b p hp
      have hbm := hinH_spec hb
      obtain ⟨c', o', k1, k2, k3⟩ := f3 b o hbm
      rw [g2] at k1; cases k1
      exact (k3.cut (w1 _ hbm).2).back hback (S.objs c o' p k2 g3)
    · obtain ⟨b', _, _, g2, g3⟩ := hι1 b p hp
      obtain ⟨c', _, _, k2, k3⟩ := hι1 c q hq
      obtain ⟨b2, o2, m1, m2, _⟩ := f3 b o (hinH_spec hb)
      obtain ⟨c2, o3, n1, n2, _⟩ := f3 c o' (hinH_spec hc)
      rw [g2] at m1; cases m1
      rw [k2] at n1; cases n1
      have := S.inj b' c' o2 o3 p q m2 n2 g3 k3 hpq
      subst this
      exact hinj b c b' g2 k2
    · cases hc : ι1 b with
      | none => rfl
      | some p =>
        obtain ⟨_, o, g1, _, _⟩ := hι1 b p hc
        have := (w1 _ g1).1
        simp only at this
        omega
  have hargs : VRs ι1 e.args vs.toList := ((sa.rv.mono f1).cut w2).back hback hv
  refine CallsIn.mono (hcall.2.2 _ w ι1 w vs S1 (Nat.le_refl _) hargs) ?_
  rintro en w' ⟨x, ι1', rfl, hup, hvx, S'⟩
  refine ⟨x, fun c => if nx ≤ c ∧ c < nx + e.new.length then (renGet ρ3 (c - nx + e.n0)).bind ι1' else ι c, rfl, ?_, ?_, ?_⟩
  · refine ⟨fun c p hp => ?_, fun c hc => by dsimp only at hc ⊢; rw [if_neg (by omega)]⟩
    simp only
    rw [if_neg]
    · exact hp
    · rintro ⟨g1, g2⟩
      rw [S.fresh c g1 (by omega)] at hp; cases hp
  all_goals
    -- how the entry's numbers and these ones go together
    have hcomp : ∀ b c p, cutS (fun b => inHin e b || decide (e.n0 ≤ b ∧ b < e.n0 + e.new.length)) (renB ρ e.n0 nx) b = some c → (renGet ρ3 b).bind ι1' = some p →
        (if nx ≤ c ∧ c < nx + e.new.length then (renGet ρ3 (c - nx + e.n0)).bind ι1' else ι c) = some p := fun b c p hb hp => by
      obtain ⟨g1, g2⟩ := cutS_spec hb
      simp only [Bool.or_eq_true, decide_eq_true_eq] at g1
      unfold renB at g2
      rcases g1 with g1 | g1
      · obtain ⟨o, ho⟩ := inHin_spec g1
        have hlt := (w1 _ ho).1
        simp only at hlt
        rw [if_neg (by omega)] at g2
        obtain ⟨pc, hpc⟩ := hmaps b c g2
        rw [hid b o ho] at hp
        have := hup.1 b pc (hι1' b o c pc ho g2 hpc)
        simp only [Option.bind_some] at hp
        rw [this] at hp; cases hp
        rw [if_neg]
        · exact hpc
        · rintro ⟨k1, k2⟩
          rw [S.fresh c k1 (by omega)] at hpc; cases hpc
      · rw [if_pos g1.1] at g2
        simp at g2
        subst g2
        rw [if_pos (by omega), show b - e.n0 + nx - nx + e.n0 = b by omega]
        exact hp
    have hcomp0 : ∀ b c p, cutS (inHin e) (renGet ρ) b = some c → (renGet ρ3 b).bind ι1' = some p → (if nx ≤ c ∧ c < nx + e.new.length then (renGet ρ3 (c - nx + e.n0)).bind ι1' else ι c) = some p := fun b c p hb hp => by
      obtain ⟨g1, g2⟩ := cutS_spec hb
      obtain ⟨o, ho⟩ := inHin_spec g1
      refine hcomp b c p (cutS_mk (by simp [g1]) ?_) hp
      have hlt := (w1 _ ho).1
      simp only at hlt
      unfold renB
      rw [if_neg (by omega)]; exact g2
    have hb3 : ∀ b c q, renGet ρ3 b = some c → ι1' c = some q → (renGet ρ3 b).bind ι1' = some q := fun b c q hb hq => by rw [hb]; exact hq
  · exact ((ren2_spec hva).cut w3).fwd hcomp ((s2.rv.mono t1).back (κ := fun b => (renGet ρ3 b).bind ι1') hb3 hvx)
  · -- the heap
    have hnew : ∀ c o, (c, some o) ∈ u → ∃ i b3 o3 oi, i < e.new.length ∧ c = nx + i ∧ renGet ρ3 (e.n0 + i) = some b3 ∧ hget h' b3 = some o3 ∧ RO (renGet ρ3) oi o3 ∧ RO (cutS (fun b => inHin e b || decide (e.n0 ≤ b ∧ b < e.n0 + e.new.length)) (renB ρ e.n0 nx)) oi o := fun c o hc => by
      obtain ⟨i, oi, g1, g2, g3⟩ := newUps_spec hu c o hc
      obtain ⟨b3, o3, k1, k2, k3⟩ := t3 (e.n0 + i) oi (List.mem_append_right _ (numbered_mem g1))
      exact ⟨i, b3, o3, oi, (List.getElem?_eq_some_iff.1 g1).1, g2, k1, k2, k3, (renO_spec g3).cut (w4 oi (List.mem_of_getElem? g1))⟩
    have hhin : ∀ b o, (b, o) ∈ e.hin → ∃ o3, hget h' b = some o3 ∧ RO (renGet ρ3) o o3 := fun b o hb => by
      obtain ⟨b3, o3, k1, k2, k3⟩ := t3 b o (List.mem_append_left _ hb)
      rw [hid b o hb] at k1; cases k1
      exact ⟨o3, k2, k3⟩
    have hwin : ∀ c p, ι c = some p → ¬ (nx ≤ c ∧ c < nx + e.new.length) := fun c p hp => by
      rintro ⟨k1, k2⟩
      rw [S.fresh c k1 (by omega)] at hp; cases hp
    -- an object of the new heap, with its place
    have hcase : ∀ c o p, hget (upsH h u) c = some o → (if nx ≤ c ∧ c < nx + e.new.length then (renGet ρ3 (c - nx + e.n0)).bind ι1' else ι c) = some p →
        (∃ i b3 o3 oi, i < e.new.length ∧ c = nx + i ∧ renGet ρ3 (e.n0 + i) = some b3 ∧ ι1' b3 = some p ∧ hget h' b3 = some o3 ∧ RO (renGet ρ3) oi o3 ∧ RO (cutS (fun b => inHin e b || decide (e.n0 ≤ b ∧ b < e.n0 + e.new.length)) (renB ρ e.n0 nx)) oi o) ∨ (hget h c = some o ∧ ι c = some p) := fun c o p hc hp => by
      rcases hget_upsH hc with h1 | h1
      · obtain ⟨i, b3, o3, oi, g1, g2, g3, g4, g5, g6⟩ := hnew c o h1
        left
        refine ⟨i, b3, o3, oi, g1, g2, g3, ?_, g4, g5, g6⟩
        rw [if_pos (by omega), show c - nx + e.n0 = e.n0 + i by omega, g3] at hp
        exact hp
      · right
        have := S.dom c o h1
        rw [if_neg (by omega)] at hp
        exact ⟨h1, hp⟩
    have hloc : ∀ k, (∃ b o p, hget (upsH .e (e.hin.map fun p => (p.1, some p.2))) b = some o ∧ ι1 b = some p ∧ p.blk = k) → ∃ b ob c oc p, (b, ob) ∈ e.hin ∧ renGet ρ b = some c ∧ ι c = some p ∧ p.blk = k ∧ hget h c = some oc ∧ RO (renGet ρ) ob oc ∧ ι1 b = some p := fun k hk => by
      obtain ⟨b, o, p, g1, g2, rfl⟩ := hk
      have hbm := hinH_spec g1
      obtain ⟨c, _, _, k2, k3⟩ := hι1 b p g2
      obtain ⟨c', oc, m1, m2, m3⟩ := f3 b o hbm
      rw [k2] at m1; cases m1
      exact ⟨b, o, c, oc, p, hbm, k2, k3, rfl, m2, m3, g2⟩
    refine ⟨fun c o p hc hp => ?_, fun c o hc => ?_, fun c d o o' p q hc hd hp hq hpq => ?_, fun c g1 g2 => ?_, fun c o p hc hp => ?_, fun k hk => ?_, S.newB, Nat.le_trans S.size S'.size, S'.os.trans S.os, S'.tape.trans S.tape, S'.output.trans S.output⟩
    · rcases hcase c o p hc hp with ⟨i, b3, o3, oi, g1, g2, g3, g4, g5, g6, g7⟩ | ⟨g1, g2⟩
      · have h1 := S'.objs b3 o3 p g5 g4
        exact g7.fwd hcomp (g6.back (κ := fun b => (renGet ρ3 b).bind ι1') hb3 h1)
      · by_cases hl : (∃ b o q, hget (upsH .e (e.hin.map fun p => (p.1, some p.2))) b = some o ∧ ι1 b = some q ∧ q.blk = p.blk)
        · obtain ⟨b, ob, c', oc, q, k1, k2, k3, k4, k5, k6, k7⟩ := hloc _ hl
          have := S.inj c' c oc o q p k5 g1 k3 g2 k4
          subst this
          rw [k3] at g2; cases g2
          rw [k5] at g1; cases g1
          obtain ⟨o3, m1, m2⟩ := hhin b ob k1
          have h1 := S'.objs b o3 _ m1 (hup.1 _ _ k7)
          exact (k6.cut (w1 _ k1).2).fwd hcomp0 (m2.back (κ := fun b => (renGet ρ3 b).bind ι1') hb3 h1)
        · have hlt := (S.objs c o p g1 g2).lt
          rw [S'.old p.blk (by rintro (h1 | h1); exact hl h1; omega)]
          refine (S.objs c o p g1 g2).mono fun c' p' hp' => ?_
          rw [if_neg (hwin c' p' hp')]; exact hp'
    · rcases hget_upsH hc with h1 | h1
      · obtain ⟨i, _, _, _, g1, g2, _⟩ := hnew c o h1
        simp only; omega
      · have := S.dom c o h1
        simp only; omega
    · -- one place, one object
      have mixed : ∀ c d o o' p q i b3 o3, renGet ρ3 (e.n0 + i) = some b3 → i < e.new.length → ι1' b3 = some p → hget h' b3 = some o3 → hget h d = some o' → ι d = some q → p.blk = q.blk → c = nx + i → hget (upsH h u) c = some o → False := by
        intro c d o o' p q i b3 o3 g3 g1 g4 g5 k1 k2 hpq _ _
        have hm := S'.mine b3 o3 p g5 g4
        rw [hpq] at hm
        rcases hm with hm | hm
        · obtain ⟨b, ob, c', oc, q', m1, m2, m3, m4, m5, m6, m7⟩ := hloc _ hm
          obtain ⟨ob3, n1, _⟩ := hhin b ob m1
          have h2 := S'.inj b3 b o3 ob3 p q' g5 n1 g4 (hup.1 _ _ m7) (by rw [m4]; exact hpq)
          subst h2
          have h3 := hinj3 _ _ _ g3 (hid b3 ob m1)
          have h4 := (w1 _ m1).1
          simp only at h4
          omega
        · have := (S.objs d o' q k1 k2).lt
          have hm' : w.heap.size ≤ q.blk := hm
          omega
      rcases hcase c o p hc hp with ⟨i, b3, o3, oi, g1, g2, g3, g4, g5, _⟩ | ⟨g1, g2⟩ <;> rcases hcase d o' q hd hq with ⟨j, b4, o4, oj, k1, k2, k3, k4, k5, _⟩ | ⟨k1, k2⟩
      · have h1 := S'.inj b3 b4 o3 o4 p q g5 k5 g4 k4 hpq
        subst h1
        have := hinj3 _ _ _ g3 k3
        omega
      · exact (mixed c d o o' p q i b3 o3 g3 g1 g4 g5 k1 k2 hpq g2 hc).elim
      · exact (mixed d c o' o q p j b4 o4 k3 k1 k4 k5 g1 g2 hpq.symm k2 hd).elim
      · exact S.inj c d o o' p q g1 k1 g2 k2 hpq
    · simp only at g1 ⊢
      rw [if_neg (by omega)]
      exact S.fresh c (by omega) g2
    · rcases hcase c o p hc hp with ⟨i, b3, o3, oi, g1, g2, g3, g4, g5, _⟩ | ⟨g1, g2⟩
      · rcases S'.mine b3 o3 p g5 g4 with hm | hm
        · obtain ⟨b, ob, c', oc, q', m1, m2, m3, m4, m5, m6, m7⟩ := hloc _ hm
          rw [← m4]
          exact S.mine c' oc q' m5 m3
        · exact S.newB _ (Nat.le_trans S.size hm)
      · exact S.mine c o p g1 g2
    · rw [S'.old k ?_]
      · exact S.old k hk
      · rintro (hm | hm)
        · obtain ⟨b, ob, c', oc, q', m1, m2, m3, m4, m5, m6, m7⟩ := hloc _ hm
          exact hk (m4 ▸ S.mine c' oc q' m5 m3)
        · exact hk (S.newB _ (Nat.le_trans S.size hm))

/-- an entry that was checked -/
theorem ent_checked {masks : Nat → Nat} {ins : Nat} {memo : Nat → List Ent} {d : Nat} {e : Ent} (hc : CFok (evK masks ins memo d).1) (hwf : entWF e = true) (hok : isOK (entK masks ins memo d e) = true) :
    ∀ args h nx q, tryEnt e args h nx = some q → CallSpec e.fi args h nx q.1 (upsH h q.2.1) q.2.2 := by
  unfold entK at hok
  rw [upsK_eq] at hok
  have hne : (evK masks ins memo d).1 e.fi e.args (upsH .e (e.hin.map fun p => (p.1, some p.2))) e.n0 (finK e) ≠ .fail := fun hf => by
    rw [hf] at hok; cases hok
  obtain ⟨v, h', nx', hk, hsp⟩ := hc _ _ _ _ _ _ hne rfl
  exact ent_spec hwf hsp (by rw [hk]; exact hne)
end Go.Ev.F
