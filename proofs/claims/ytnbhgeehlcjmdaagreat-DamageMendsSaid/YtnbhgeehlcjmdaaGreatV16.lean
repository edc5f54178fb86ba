/- Proved here: what the kernel's run does at each of its small steps. -/
import Derived.Test.YtnbhgeehlcjmdaaGreatV2
namespace Go.Ev.F
open Go Go.Ev

/-- what a name stands for -/
def look (m : Nat) (f g : Fr) (t : Nat) : Option AV := if m.testBit t then f.get t else g.get t
theorem bit_cases (m t : Nat) : (Nat.land (Nat.shiftRight m t) 1 = 0 ∧ m.testBit t = false) ∨ (Nat.land (Nat.shiftRight m t) 1 = 1 ∧ m.testBit t = true) := by
  have h1 : m.testBit t = (Nat.land 1 (Nat.shiftRight m t) != 0) := rfl
  have h2 : Nat.land (Nat.shiftRight m t) 1 = (m >>> t) % 2 := Nat.and_one_is_mod _
  have h3 : Nat.land 1 (Nat.shiftRight m t) = (m >>> t) % 2 := (Nat.and_comm 1 _).trans h2
  rw [h1, h2, h3]
  have := Nat.mod_two_eq_zero_or_one (m >>> t)
  rcases this with e | e
  · left; rw [e]; exact ⟨rfl, rfl⟩
  · right; rw [e]; exact ⟨rfl, rfl⟩
theorem fgetK_inv {t : Nat} {κ : KV} {o : O} (ho : o ≠ .fail) : ∀ {f : Fr}, fgetK t κ f = o → ∃ v, f.get t = some v ∧ κ v = o
  | .nil, h => absurd h.symm ho
  | .cons t' v r, h => by
    have h' : Bool.rec (motive := fun _ => O) (fgetK t κ r) (κ v) (Nat.beq t' t) = o := h
    cases hb : Nat.beq t' t with
    | true =>
      rw [hb] at h'
      have e := Nat.eq_of_beq_eq_true hb
      exact ⟨v, by simp [Fr.get, e], h'⟩
    | false =>
      rw [hb] at h'
      have e : t' ≠ t := Nat.ne_of_beq_eq_false hb
      obtain ⟨u, h1, h2⟩ := fgetK_inv ho h'
      exact ⟨u, by simp [Fr.get, e, h1], h2⟩
theorem getK_inv {t m : Nat} {f g : Fr} {κ : KV} {o : O} (ho : o ≠ .fail) (h : getK t m f g κ = o) : ∃ v, look m f g t = some v ∧ κ v = o := by
  unfold getK at h
  rcases bit_cases m t with ⟨e1, e2⟩ | ⟨e1, e2⟩
  · rw [e1] at h
    obtain ⟨v, h1, h2⟩ := fgetK_inv ho h
    exact ⟨v, by simp only [look, e2, Bool.false_eq_true, if_false]; exact h1, h2⟩
  · rw [e1] at h
    obtain ⟨v, h1, h2⟩ := fgetK_inv ho h
    exact ⟨v, by simp only [look, e2, if_true]; exact h1, h2⟩
theorem evalA_tmp (m : Nat) (f g : Fr) (t : Tmp) : evalA m f g (.tmp t) = look m f g t := rfl
theorem optK_inv {α : Type} {x : Option α} {κ : α → O} {o : O} (ho : o ≠ .fail) (h : optK x κ = o) : ∃ v, x = some v ∧ κ v = o := by
  cases x with
  | none => exact absurd h.symm ho
  | some v => exact ⟨v, rfl, h⟩
theorem evalK_inv {x : Operand} {m : Nat} {f g : Fr} {κ : KV} {o : O} (ho : o ≠ .fail) (h : evalK x m f g κ = o) : ∃ v, evalA m f g x = some v ∧ κ v = o := by
  cases x with
  | tmp t => exact getK_inv ho h
  | const v =>
    have h' : constK v m f g κ = o := h
    unfold constK at h'
    cases hv : ofValue v with
    | none => rw [hv] at h'; exact absurd h'.symm ho
    | some a => rw [hv] at h'; exact ⟨a, hv, h'⟩
  | global g => exact absurd h.symm ho
  | func fi => exact ⟨_, rfl, h⟩

/-! what is put -/
noncomputable def putF (d : Option Tmp) (v : AV) (m : Nat) (f g : Fr) : Fr × Fr := match d with
  | none => (f, g)
  | some d => if m.testBit d then (.cons d v f, g) else (f, .cons d v g)
theorem putK_eq (d : Option Tmp) (v : AV) (m : Nat) (K : K4) (f g : Fr) (h : HT) (nx : Nat) : putK d v m K f g h nx = K (putF d v m f g).1 (putF d v m f g).2 h nx := by
  cases d with
  | none => rfl
  | some d =>
    show Nat.rec (motive := fun _ => O) (K f (.cons d v g) h nx) (fun _ _ => K (.cons d v f) g h nx) (Nat.land (Nat.shiftRight m d) 1) = _
    rcases bit_cases m d with ⟨e1, e2⟩ | ⟨e1, e2⟩
    · rw [e1]; simp only [putF, e2, Bool.false_eq_true, if_false]; rfl
    · rw [e1]; simp only [putF, e2, if_true]; rfl
theorem look_put (d : Option Tmp) (v : AV) (m : Nat) (f g : Fr) (t : Nat) : look m (putF d v m f g).1 (putF d v m f g).2 t = if d = some t then some v else look m f g t := by
  cases d with
  | none => simp [putF]
  | some d =>
    unfold putF look
    by_cases hd : m.testBit d <;> by_cases ht : m.testBit t <;> by_cases e : d = t <;> simp_all [Fr.get]

/-! the heap -/
theorem land_one (k : Nat) : Nat.land k 1 = k % 2 := Nat.and_one_is_mod _
theorem shift_one (k : Nat) : Nat.shiftRight k 1 = k / 2 := rfl
theorem hgetS_inv {ih : HT → Nat → O} {κ : Obj → O} {o : O} (fl : Nat) (ho : o ≠ .fail) (hih : ∀ (t : HT) (k : Nat), ih t k = o → ∃ x, HT.get fl t k = some x ∧ κ x = o) :
    ∀ {t : HT} {k : Nat}, hgetS t ih O.fail κ k = o → ∃ x, HT.get (fl + 1) t k = some x ∧ κ x = o
  | .e, k, h => absurd h.symm ho
  | .n l v r, 0, h => by
    cases v with
    | none => exact absurd h.symm ho
    | some x => exact ⟨x, rfl, h⟩
  | .n l v r, k + 1, h => by
    have h' : ih (Nat.rec (motive := fun _ => HT) l (fun _ _ => r) (Nat.land k 1)) (Nat.shiftRight k 1) = o := h
    obtain ⟨x, h1, h2⟩ := hih _ _ h'
    refine ⟨x, ?_, h2⟩
    rw [land_one, shift_one] at h1
    simp only [HT.get]
    rcases Nat.mod_two_eq_zero_or_one k with e | e
    · rw [e] at h1; simp only [e, if_true]; exact h1
    · rw [e] at h1; simp only [e, Nat.one_ne_zero, if_false]; exact h1
theorem hgetK_aux {κ : Obj → O} {o : O} (ho : o ≠ .fail) : ∀ (fl : Nat) (t : HT) (k : Nat),
    Nat.rec (motive := fun _ => HT → Nat → O) (fun _ _ => O.fail) (fun _ ih t k => hgetS t ih O.fail κ k) fl t k = o → ∃ x, HT.get fl t k = some x ∧ κ x = o
  | 0, _, _, h => absurd h.symm ho
  | fl + 1, _, _, h => hgetS_inv fl ho (hgetK_aux ho fl) h
theorem hgetK_inv {h : HT} {k : Nat} {κ : Obj → O} {o : O} (ho : o ≠ .fail) (hh : hgetK h k κ = o) : ∃ x, hget h k = some x ∧ κ x = o := hgetK_aux ho 24 h k hh
theorem hsetL_eq {l : HT} {v : Option Obj} {r : HT} {x : Option Obj} {fl : Nat} {ih : HT → Nat → KH → O} (hih : ∀ t k κ, ih t k κ = κ (HT.set x fl t k)) (k : Nat) (κ : KH) :
    hsetL l v r ih k κ = κ (if k % 2 = 0 then .n (HT.set x fl l (k / 2)) v r else .n l v (HT.set x fl r (k / 2))) := by
  show Nat.rec (motive := fun _ => O) (ih l (Nat.shiftRight k 1) (fun l => κ (.n l v r))) (fun _ _ => ih r (Nat.shiftRight k 1) (fun r => κ (.n l v r))) (Nat.land k 1) = _
  rw [land_one, shift_one]
  rcases Nat.mod_two_eq_zero_or_one k with e | e
  · rw [e]; simp only [hih, if_true]; rfl
  · rw [e]; simp only [hih, Nat.one_ne_zero, if_false]; rfl
theorem hsetK_aux (x : Option Obj) : ∀ (fl : Nat) (t : HT) (k : Nat) (κ : KH),
    Nat.rec (motive := fun _ => HT → Nat → KH → O) (fun t _ κ => κ t) (fun _ ih t k κ => hsetS t x ih k κ) fl t k κ = κ (HT.set x fl t k)
  | 0, t, k, κ => by cases t <;> rfl
  | fl + 1, .e, 0, κ => rfl
  | fl + 1, .e, k + 1, κ => (hsetL_eq (hsetK_aux x fl) k κ)
  | fl + 1, .n l v r, 0, κ => rfl
  | fl + 1, .n l v r, k + 1, κ => (hsetL_eq (hsetK_aux x fl) k κ)
theorem hsetK_eq (h : HT) (k : Nat) (x : Option Obj) (κ : KH) : hsetK h k x κ = κ (hset h k x) := hsetK_aux x 24 h k κ
theorem upsK_eq : ∀ (u : Ups) (h : HT) (κ : KH), upsK u h κ = κ (upsH h u)
  | [], _, _ => rfl
  | p :: r, h, κ => by
    have : upsK (p :: r) h κ = hsetK h p.1 p.2 (fun h => upsK r h κ) := rfl
    rw [this, hsetK_eq, upsK_eq r]; rfl
theorem cellsK_inv {h : HT} {b : Nat} {κ : KL} {o : O} (ho : o ≠ .fail) (hh : cellsK h b κ = o) : ∃ l, cellsOf h b = some l ∧ κ l = o := by
  obtain ⟨x, h1, h2⟩ := hgetK_inv ho hh
  cases x with
  | cells l => exact ⟨l, by simp [cellsOf, h1], h2⟩
  | map es c => exact absurd h2.symm ho
  | loop r => exact absurd h2.symm ho
theorem nthK_inv {o : O} (ho : o ≠ .fail) : ∀ {l : List AV} {κ : KV} {i : Nat}, nthK l κ i = o → ∃ v, l[i]? = some v ∧ κ v = o
  | [], _, _, h => absurd h.symm ho
  | v :: l, κ, 0, h => ⟨v, rfl, h⟩
  | v :: l, κ, i + 1, h => by
    have h' : nthK l κ i = o := h
    obtain ⟨u, h1, h2⟩ := nthK_inv ho h'
    exact ⟨u, by simpa using h1, h2⟩
theorem takeK_inv {o : O} (ho : o ≠ .fail) : ∀ {l : List AV} {n : Nat} {κ : KL}, takeK l n κ = o → n ≤ l.length ∧ κ (l.take n) = o
  | [], 0, κ, h => ⟨Nat.le_refl _, h⟩
  | [], n + 1, κ, h => absurd h.symm ho
  | v :: l, 0, κ, h => ⟨Nat.zero_le _, h⟩
  | v :: l, n + 1, κ, h => by
    have h' : takeK l n (fun r => κ (v :: r)) = o := h
    obtain ⟨h1, h2⟩ := takeK_inv ho h'
    exact ⟨by simpa using h1, by simpa using h2⟩
theorem dropK_eq : ∀ (l : List AV) (i : Nat) (κ : KL), dropK l i κ = κ (l.drop i)
  | [], i, κ => by simp [dropK]
  | v :: l, 0, κ => rfl
  | v :: l, i + 1, κ => by
    have : dropK (v :: l) (i + 1) κ = dropK l i κ := rfl
    rw [this, dropK_eq l i κ]; rfl
theorem okK_eq (v : AV) : okK v = cellOK v := by cases v <;> rfl
theorem u8K_eq (v : AV) : u8K v = u8V v := by
  cases v with
  | int k n => cases k <;> rfl
  | _ => rfl
theorem okW_eq (c v : AV) : okW c v = (cellOK v && (!u8V c || u8V v)) := by
  unfold okW
  rw [okK_eq, u8K_eq, u8K_eq]
  cases cellOK v <;> cases u8V c <;> cases u8V v <;> rfl
theorem cellsOfV_eq (v : AV) : cellsOfV v = v.cells := by cases v <;> rfl
theorem lenN_eq : ∀ l : List AV, lenN l = l.length
  | [] => rfl
  | v :: l => by
    have : lenN (v :: l) = Nat.succ (lenN l) := rfl
    rw [this, lenN_eq l]; rfl
theorem writeK_inv {o : O} (ho : o ≠ .fail) : ∀ {l vs : List AV} {κ : KL}, writeK l vs κ = o → ∃ r, over l vs = some r ∧ κ r = o
  | [], [], κ, h => ⟨[], rfl, h⟩
  | [], v :: vs, κ, h => absurd h.symm ho
  | c :: l, [], κ, h => ⟨_, rfl, h⟩
  | c :: l, v :: vs, κ, h => by
    have h' : Bool.rec (motive := fun _ => O) .fail (writeK l vs (fun r => κ (v :: r))) (okW c v) = o := h
    rw [okW_eq] at h'
    cases hc : (cellOK v && (!u8V c || u8V v)) with
    | false => rw [hc] at h'; exact absurd h'.symm ho
    | true =>
      rw [hc] at h'
      obtain ⟨r, h1, h2⟩ := writeK_inv ho h'
      exact ⟨v :: r, by simp only [over, hc, h1, if_true], h2⟩
theorem setK_inv {o : O} {vs : List AV} (ho : o ≠ .fail) : ∀ {l : List AV} {i : Nat} {κ : KL}, setK vs l i κ = o → ∃ r, overAt l i vs = some r ∧ κ r = o
  | [], 0, κ, h => writeK_inv ho h
  | [], i + 1, κ, h => absurd h.symm ho
  | c :: l, 0, κ, h => writeK_inv ho h
  | c :: l, i + 1, κ, h => by
    have h' : setK vs l i (fun r => κ (c :: r)) = o := h
    obtain ⟨r, h1, h2⟩ := setK_inv ho h'
    exact ⟨c :: r, by simp [overAt, h1], h2⟩
theorem appK_eq : ∀ (l s : List AV) (κ : KL), appK l s κ = κ (l ++ s)
  | [], s, κ => rfl
  | v :: l, s, κ => by
    have : appK (v :: l) s κ = appK l s (fun r => κ (v :: r)) := rfl
    rw [this, appK_eq l]; rfl
theorem argsK_inv {m : Nat} {f g : Fr} {o : O} (ho : o ≠ .fail) : ∀ {l : List Operand} {κ : KL}, argsK m f g l κ = o → ∃ vs, argsA (evalA m f g) l = some vs ∧ κ vs = o
  | [], κ, h => ⟨[], rfl, h⟩
  | x :: l, κ, h => by
    have h' : evalK x m f g (fun v => argsK m f g l (fun r => κ (v :: r))) = o := h
    obtain ⟨v, h1, h2⟩ := evalK_inv ho h'
    obtain ⟨vs, h3, h4⟩ := argsK_inv ho h2
    exact ⟨v :: vs, by simp [argsA, h1, h3], h4⟩
end Go.Ev.F
