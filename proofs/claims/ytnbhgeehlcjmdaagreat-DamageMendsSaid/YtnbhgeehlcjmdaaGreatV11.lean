/- Proved here: what the reckoner says of the builtin functions is what the model does. -/
import Derived.Test.YtnbhgeehlcjmdaaGreatV10
import Derived.Laws.Append
namespace Go.Ev
open Go
variable {P : Program} {w w0 : World} {ι : Mp} {B : Bd} {h : HT} {nx : Nat} {ρ : Env} {ρc : Operand → Value} {o : Oper} {r : AV × Ups × Nat}

/-- a builtin function's call -/
abbrev BiOK (P : Program) (b : Builtin) (ats : Array TypeId) (ty : TypeId) (cs : Array Bool) (vs : Array Value) (B : Bd) (w0 : World) (ι : Mp) (h : HT) (w : World) (r : AV × Ups × Nat) : Prop :=
  r.2.2 ≤ B.hi → ∃ ι' x w', (builtin b ats ty cs vs).run P w = .ok (.value x) w' ∧ Mp.up r.2.2 ι ι' ∧ VR ι' r.1 x ∧ Sim B w0 ι' (upsH h r.2.1) r.2.2 w' ∧ (r.2.1 = [] → ι' = ι ∧ w' = w)
variable {ats : Array TypeId} {ty : TypeId} {cs : Array Bool}

theorem BiOK.same (S : Sim B w0 ι h nx w) {b : Builtin} {vs : Array Value} {v : AV} {x : Value} (hv : VR ι v x) (hr : (builtin b ats ty cs vs).run P w = .ok (.value x) w) : BiOK P b ats ty cs vs B w0 ι h w (v, [], nx) :=
  fun _ => ⟨ι, x, w, hr, Mp.up.refl _ _, hv, S, fun _ => ⟨rfl, rfl⟩⟩

theorem VRs.one {a : AV} {m : List Value} (h : VRs ι [a] m) : ∃ x, m = [x] ∧ VR ι a x := by
  cases h with | cons h t => cases t; exact ⟨_, rfl, h⟩
theorem VRs.two {a b : AV} {m : List Value} (h : VRs ι [a, b] m) : ∃ x y, m = [x, y] ∧ VR ι a x ∧ VR ι b y := by
  cases h with | cons h t => obtain ⟨y, rfl, hy⟩ := t.one; exact ⟨_, _, rfl, h, hy⟩

theorem elemT_spec {t e : TypeId} (h : elemT P t = some e) : P.underlying t = some (.slice e) := by
  unfold elemT at h
  split at h
  · rename_i e' hd; simp at h; subst h; exact hd
  · simp at h

theorem ok_cap (S : Sim B w0 ι h nx w) {l : List AV} {vs : Array Value} (hl : VRs ι l vs.toList) (hr : bCap P ats nx l = some r) : BiOK P .cap ats ty cs vs B w0 ι h w r := by
  obtain ⟨vs⟩ := vs
  simp only at hl
  unfold bCap at hr
  split at hr
  · rename_i t ht
    split at hr
    · rename_i e he
      have hd := elemT_spec he
      split at hr
      · simp at hr; subst hr
        obtain ⟨x, rfl, hx⟩ := hl.one
        cases hx
        exact BiOK.same S (.int _ _) (by simp only [builtin, Builtin.cap_, ht, List.getElem?_toArray, List.getElem?_cons_zero, Sem.run_bind, run_underlying' hd, Result.andThen_ok, Sem.run_pure, goInt]; rfl)
      · rename_i b off n c
        simp at hr; subst hr
        obtain ⟨x, rfl, hx⟩ := hl.one
        cases hx
        exact BiOK.same S (.int _ _) (by simp only [builtin, Builtin.cap_, ht, List.getElem?_toArray, List.getElem?_cons_zero, Sem.run_bind, run_underlying' hd, Result.andThen_ok, Sem.run_pure, goInt])
      · simp at hr
    · simp at hr
  · simp at hr

theorem ok_min (S : Sim B w0 ι h nx w) {l : List AV} {vs : Array Value} (hl : VRs ι l vs.toList) (hr : bMin nx l = some r) : BiOK P .min ats ty cs vs B w0 ι h w r := by
  have aux : ∀ (l : List AV) (m : List Value) (k : IntKind) (a n : Int), VRs ι l m → minA a l = some n → (m.foldlM Builtin.min2 (.int k a)).run P w = .ok (.int k n) w := by
    intro l
    induction l with
    | nil => intro m k a n hm hn; cases hm; simp [minA] at hn; subst hn; simp
    | cons v l ih =>
      intro m k a n hm hn
      cases hm with
      | cons hv ht =>
        cases v <;> simp only [minA] at hn <;> try (simp at hn; done)
        cases hv
        simp only [List.foldlM_cons, Builtin.min2, Sem.run_bind, Sem.run_pure, Result.andThen_ok]
        exact ih _ _ _ _ ht hn
  unfold bMin at hr
  split at hr
  · rename_i k m l'
    split at hr
    · rename_i n hn
      simp at hr; subst hr
      obtain ⟨vs⟩ := vs
      simp only at hl
      cases hl with
      | cons hv ht =>
        cases hv
        refine BiOK.same S (.int _ _) ?_
        simp only [builtin, Builtin.min_, Sem.run_bind, aux _ _ _ _ _ ht hn, Result.andThen_ok, Sem.run_pure]
    · simp at hr
  · simp at hr
theorem ok_max (S : Sim B w0 ι h nx w) {l : List AV} {vs : Array Value} (hl : VRs ι l vs.toList) (hr : bMax nx l = some r) : BiOK P .max ats ty cs vs B w0 ι h w r := by
  have aux : ∀ (l : List AV) (m : List Value) (k : IntKind) (a n : Int), VRs ι l m → maxA a l = some n → (m.foldlM Builtin.max2 (.int k a)).run P w = .ok (.int k n) w := by
    intro l
    induction l with
    | nil => intro m k a n hm hn; cases hm; simp [maxA] at hn; subst hn; simp
    | cons v l ih =>
      intro m k a n hm hn
      cases hm with
      | cons hv ht =>
        cases v <;> simp only [maxA] at hn <;> try (simp at hn; done)
        cases hv
        simp only [List.foldlM_cons, Builtin.max2, Sem.run_bind, Sem.run_pure, Result.andThen_ok]
        exact ih _ _ _ _ ht hn
  unfold bMax at hr
  split at hr
  · rename_i k m l'
    split at hr
    · rename_i n hn
      simp at hr; subst hr
      obtain ⟨vs⟩ := vs
      simp only at hl
      cases hl with
      | cons hv ht =>
        cases hv
        refine BiOK.same S (.int _ _) ?_
        simp only [builtin, Builtin.max_, Sem.run_bind, aux _ _ _ _ _ ht hn, Result.andThen_ok, Sem.run_pure]
    · simp at hr
  · simp at hr
theorem run_getMap {k : Nat} {es : Array MapEntry} {cl : Nat} (hw : w.heap[k]? = some (.map es cl)) : (getObj k).run P w = .ok (.map es cl) w := by simp [getObj, Sem.run, hw]
theorem ok_len (S : Sim B w0 ι h nx w) {l : List AV} {vs : Array Value} (hl : VRs ι l vs.toList) (hr : bLen P ats h nx l = some r) : BiOK P .len ats ty cs vs B w0 ι h w r := by
  obtain ⟨vs⟩ := vs
  simp only at hl
  unfold bLen at hr
  split at hr
  · rename_i x
    obtain ⟨y, rfl, hy⟩ := hl.one
    split at hr
    · rename_i v hv
      simp at hr; subst hr
      unfold lenOp at hv
      split at hv
      · simp at hv
      · rename_i t ht
        have run : ∀ {n : Nat}, (Builtin.len_ ats ty #[y]).run P w = .ok (goInt n) w → v = .int .i64 n → BiOK P .len ats ty cs #[y] B w0 ι h w (v, [], nx) := by
          rintro n hn rfl
          exact BiOK.same S (.int _ _) (by simp only [builtin, Sem.run_bind, hn, Result.andThen_ok, Sem.run_pure, goInt])
        split at hv
        · rename_i s hd
          simp at hv; cases hy
          rename_i s
          exact run (n := s.size) (by simp only [Builtin.len_, ht, List.getElem?_toArray, List.getElem?_cons_zero, Sem.run_bind, run_underlying' hd, Result.andThen_ok, Sem.run_pure]) (by rw [← hv]; rfl)
        · rename_i n _ hd
          simp at hv
          exact run (n := n) (by simp only [Builtin.len_, ht, List.getElem?_toArray, List.getElem?_cons_zero, Sem.run_bind, run_underlying' hd, Result.andThen_ok, Sem.run_pure]) hv.symm
        · rename_i a hd
          split at hv
          · rename_i n _ hd2
            simp at hv
            exact run (n := n) (by simp only [Builtin.len_, ht, List.getElem?_toArray, List.getElem?_cons_zero, Sem.run_bind, run_underlying' hd, run_underlying' hd2, Result.andThen_ok, Sem.run_pure]) hv.symm
          · simp at hv
        · rename_i e hd
          simp at hv; cases hy
          exact run (n := 0) (by simp only [Builtin.len_, ht, List.getElem?_toArray, List.getElem?_cons_zero, Sem.run_bind, run_underlying' hd, Result.andThen_ok, Sem.run_pure]) (by rw [← hv]; rfl)
        · rename_i e b off n c q hd
          simp at hv
          exact run (n := n) (by cases hy <;> simp only [Builtin.len_, ht, List.getElem?_toArray, List.getElem?_cons_zero, Sem.run_bind, run_underlying' hd, Result.andThen_ok, Sem.run_pure]) hv.symm
        · rename_i k e hd
          simp at hv; cases hy
          exact run (n := 0) (by simp only [Builtin.len_, ht, List.getElem?_toArray, List.getElem?_cons_zero, Sem.run_bind, run_underlying' hd, Result.andThen_ok, Sem.run_pure]; rfl) (by rw [← hv]; rfl)
        · rename_i k e b hd
          split at hv
          · rename_i es cl hb
            simp at hv; cases hy with
            | mp hp =>
              obtain ⟨q, hq, es', hes, her⟩ := S.objs1 hb hp
              rw [hp] at hq; cases hq
              have hlen : es.length = es'.size := by
                have : es.length = es'.toList.length := by
                  generalize es'.toList = m at her
                  clear hb hv
                  induction her with
                  | nil => rfl
                  | cons _ _ _ _ ih => simp [ih]
                simpa using this
              exact run (n := es.length) (by simp only [Builtin.len_, ht, List.getElem?_toArray, List.getElem?_cons_zero, Sem.run_bind, run_underlying' hd, Result.andThen_ok, run_getMap hes, Sem.run_pure, hlen]) hv.symm
          · simp at hv
        · simp at hv
    · simp at hr
  · simp at hr

/-- a row written behind a slice's address -/
theorem add_zero (a : Addr) : a.add 0 = a := by unfold Addr.add; simp
theorem Sim.writeAt (S : Sim B w0 ι h nx w) {b off len cap opn k c : Nat} {a : Addr} {vs new l' : List AV} {xs : List Value} (hv : VR ι (.sl b off len cap opn) (.slice (some a) len c)) (hb : hget h b = some (.cells vs))
    (hn : VRs ι new xs) (h0 : opn = 0 ∨ 0 < cap ∨ new = []) (hl : overAt vs (off + k) new = some l') :
    ∃ w', (storeCells (a.add k) xs).run P w = .ok () w' ∧ Sim B w0 ι (hset h b (some (.cells l'))) nx w' := by
  have hp : ∃ p o', ι b = some p ∧ a = ⟨p.blk, o', none⟩ ∧ (opn = 0 ∨ 0 < cap → o' = p.base + off) := by
    cases hv with
    | slc _ _ _ hp => exact ⟨_, _, hp, rfl, fun _ => rfl⟩
    | slo _ _ _ k o' c hp h1 h2 h3 h4 h5 => exact ⟨_, _, hp, rfl, fun e => h3 (by omega)⟩
  obtain ⟨p, o', hp, rfl, ho'⟩ := hp
  have main : opn = 0 ∨ 0 < cap → ∃ w', (storeCells ((⟨p.blk, o', none⟩ : Addr).add k) xs).run P w = .ok () w' ∧ Sim B w0 ι (hset h b (some (.cells l'))) nx w' := fun e => by
    rw [ho' e, addr_add, Nat.add_assoc]
    exact S.write (P := P) hb hp hn hl
  rcases h0 with e | e | rfl
  · exact main (.inl e)
  · exact main (.inr e)
  · cases hn
    obtain ⟨w', h1, h2⟩ := S.write (P := P) (xs := []) hb hp .nil hl
    simp [storeCells] at h1
    subst h1
    exact ⟨w, by simp [storeCells], h2⟩

theorem srcA_zero {size : Nat} {x : AV} {l : List AV} (hl : srcA h size 0 x = some l) : l = [] := by
  have := srcA_len hl
  simpa using this

theorem ok_copy (S : Sim B w0 ι h nx w) {l : List AV} {vs : Array Value} (hl : VRs ι l vs.toList) (hr : bCopy P ats h nx l = some r) : BiOK P .copy ats ty cs vs B w0 ι h w r := by
  obtain ⟨vs⟩ := vs
  simp only at hl
  unfold bCopy at hr
  split at hr
  · rename_i d s
    obtain ⟨dv, sv, rfl, hd, hs⟩ := hl.two
    split at hr
    · rename_i v u hc
      simp at hr; subst hr
      unfold copyA at hc
      split at hc
      · rename_i t ht
        split at hc
        · rename_i elem he
          have hu := elemT_spec he
          split at hc
          · rename_i size n b off m cp q hsz hn
            split at hc
            · rename_i new cells hnew hcs
              split at hc
              · rename_i l' hov
                simp at hc; obtain ⟨rfl, rfl⟩ := hc
                have hav : ∃ a c, dv = .slice (some a) m c := by cases hd <;> exact ⟨_, _, rfl⟩
                obtain ⟨a, c, rfl⟩ := hav
                obtain ⟨xs, x1, x2⟩ := srcA_spec (P := P) S hs hn (Nat.min_le_left n m) hnew
                have h0 : q = 0 ∨ 0 < cp ∨ new = [] := by
                  cases hd with
                  | slc _ _ _ hp => exact .inl rfl
                  | slo _ _ _ k o' c hp h1 h2 h3 h4 h5 =>
                    rcases Nat.eq_zero_or_pos cp with e | e
                    · right; right
                      have : Nat.min n m = 0 := by
                        have := Nat.min_le_right n m
                        show min n m = 0
                        omega
                      rw [this] at hnew
                      exact srcA_zero hnew
                    · exact .inr (.inl e)
                obtain ⟨w', g1, g2⟩ := S.writeAt (P := P) (k := 0) hd (cellsOf_spec hcs) x2 h0 (by simpa using hov)
                intro _
                refine ⟨ι, _, w', ?_, Mp.up.refl _ _, .int _ _, g2, fun e => by simp at e⟩
                rw [add_zero] at g1
                simp only [builtin, Builtin.copy_, ht, List.getElem?_toArray, List.getElem?_cons_zero, List.getElem?_cons_succ, Sem.run_bind, run_underlying' hu, Result.andThen_ok, lenA_spec (P := P) hs hn, run_sizeOf' hsz, x1 w rfl, g1, Sem.run_pure, goInt]
              · simp at hc
            · simp at hc
          · simp at hc
        · simp at hc
      · simp at hc
    · simp at hr
  · simp at hr
theorem zeroCells_VRs {z : AV} {zv : Value} (hz : VR ι z zv) (n : Nat) : VRs ι (repl n z.cells) (Builtin.zeroCells zv.cells n).toList :=
  repl_VRs hz.cells n _ (by have := hz.cells.length; simp at this; rw [this])

theorem ok_clear (S : Sim B w0 ι h nx w) {l : List AV} {vs : Array Value} (hl : VRs ι l vs.toList) (hr : bClear P ats h nx l = some r) : BiOK P .clear ats ty cs vs B w0 ι h w r := by
  obtain ⟨vs⟩ := vs
  simp only at hl
  unfold bClear at hr
  split at hr
  · rename_i d
    obtain ⟨dv, rfl, hd⟩ := hl.one
    split at hr
    · rename_i u hc
      simp at hr; subst hr
      have triv : (Builtin.clear_ ats ty #[dv]).run P w = .ok (.tuple #[]) w → u = [] → BiOK P .clear ats ty cs #[dv] B w0 ι h w (.tup [], u, nx) := by
        rintro hrun rfl
        exact BiOK.same S (.tup .nil) (by simp only [builtin, Sem.run_bind, hrun, Result.andThen_ok, Sem.run_pure])
      unfold clearA at hc
      split at hc
      · rename_i t ht
        split at hc
        · rename_i elem he
          have hu := elemT_spec he
          split at hc
          · rename_i z size b off n cp q hz hsz
            obtain ⟨zv, hzr, hzv⟩ := run_zero' (P := P) hz
            split at hc
            · rename_i hzl
              have hav : ∃ a c, dv = .slice (some a) n c := by cases hd <;> exact ⟨_, _, rfl⟩
              obtain ⟨a, c, rfl⟩ := hav
              split at hc
              · rename_i h0
                subst h0
                simp at hc
                exact triv (by simp only [Builtin.clear_, ht, List.getElem?_toArray, List.getElem?_cons_zero, Sem.run_bind, run_underlying' hu, Result.andThen_ok, Sem.run_pure]) hc
              · rename_i h0
                split at hc
                · rename_i cells hcs
                  split at hc
                  · rename_i l' hov
                    simp at hc; subst hc
                    have h1 : q = 0 ∨ 0 < cp ∨ repl n z.cells = [] := by
                      cases hd with
                      | slc _ _ _ hp => exact .inl rfl
                      | slo _ _ _ k o' c hp h1 h2 h3 h4 h5 => exact .inr (.inl (by omega))
                    obtain ⟨w', g1, g2⟩ := S.writeAt (P := P) (k := 0) hd (cellsOf_spec hcs) (zeroCells_VRs (hzv ι) n) h1 (by simpa using hov)
                    rw [add_zero] at g1
                    intro _
                    refine ⟨ι, _, w', ?_, Mp.up.refl _ _, .tup .nil, g2, fun e => by simp at e⟩
                    obtain ⟨n, rfl⟩ := Nat.exists_eq_succ_of_ne_zero h0
                    simp only [builtin, Builtin.clear_, ht, List.getElem?_toArray, List.getElem?_cons_zero, Sem.run_bind, run_underlying' hu, Result.andThen_ok, hzr, g1, Sem.run_pure]
                  · simp at hc
                · simp at hc
            · simp at hc
          · rename_i hz hsz
            simp at hc
            cases hd
            exact triv (by simp only [Builtin.clear_, ht, List.getElem?_toArray, List.getElem?_cons_zero, Sem.run_bind, run_underlying' hu, Result.andThen_ok, Sem.run_pure]) hc
          · simp at hc
        · simp at hc
      · simp at hc
    · simp at hr
  · simp at hr
end Go.Ev
