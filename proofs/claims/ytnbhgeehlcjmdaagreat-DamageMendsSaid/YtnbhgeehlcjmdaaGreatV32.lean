/- Proved here: a call that was made before comes to the same again, by other numbers. -/
import Derived.Test.YtnbhgeehlcjmdaaGreatV31
namespace Go.Ev.F
open Go Go.Ev

/-! values by other numbers -/
abbrev Sg := Nat → Option Nat
mutual
inductive RV (σ : Sg) : AV → AV → Prop
  | dead : RV σ .dead .dead
  | bool (b : Bool) : RV σ (.bool b) (.bool b)
  | int (k : IntKind) (n : Int) : RV σ (.int k n) (.int k n)
  | str (s : List UInt8) : RV σ (.str s) (.str s)
  | pnil : RV σ .pnil .pnil
  | ptr {b c : Nat} (off : Nat) (h : σ b = some c) : RV σ (.ptr b off) (.ptr c off)
  | snil : RV σ .snil .snil
  | sl {b c : Nat} (off n k q : Nat) (h : σ b = some c) : RV σ (.sl b off n k q) (.sl c off n k q)
  | mnil : RV σ .mnil .mnil
  | mp {b c : Nat} (h : σ b = some c) : RV σ (.mp b) (.mp c)
  | fnil : RV σ .fnil .fnil
  | fn (f : Nat) {a b a' b' : List AV} (ha : RVs σ a a') (hb : RVs σ b b') : RV σ (.fn f a b) (.fn f a' b')
  | agg {l l' : List AV} (h : RVs σ l l') : RV σ (.agg l) (.agg l')
  | tup {l l' : List AV} (h : RVs σ l l') : RV σ (.tup l) (.tup l')
inductive RVs (σ : Sg) : List AV → List AV → Prop
  | nil : RVs σ [] []
  | cons {a b : AV} {l m : List AV} (h : RV σ a b) (t : RVs σ l m) : RVs σ (a :: l) (b :: m)
end
mutual
theorem RV.mono {σ τ : Sg} (hl : ∀ b c, σ b = some c → τ b = some c) : ∀ {p a : AV}, RV σ p a → RV τ p a
  | _, _, .dead => .dead
  | _, _, .bool b => .bool b
  | _, _, .int k n => .int k n
  | _, _, .str s => .str s
  | _, _, .pnil => .pnil
  | _, _, .ptr o h => .ptr o (hl _ _ h)
  | _, _, .snil => .snil
  | _, _, .sl a b c d h => .sl a b c d (hl _ _ h)
  | _, _, .mnil => .mnil
  | _, _, .mp h => .mp (hl _ _ h)
  | _, _, .fnil => .fnil
  | _, _, .fn f ha hb => .fn f (RVs.mono hl ha) (RVs.mono hl hb)
  | _, _, .agg h => .agg (RVs.mono hl h)
  | _, _, .tup h => .tup (RVs.mono hl h)
theorem RVs.mono {σ τ : Sg} (hl : ∀ b c, σ b = some c → τ b = some c) : ∀ {p a : List AV}, RVs σ p a → RVs τ p a
  | _, _, .nil => .nil
  | _, _, .cons h t => .cons (RV.mono hl h) (RVs.mono hl t)
end
mutual
/-- from the renamed one to the other -/
theorem RV.back {σ : Sg} {ι κ : Mp} (hl : ∀ b c q, σ b = some c → ι c = some q → κ b = some q) : ∀ {p a : AV} {x : Value}, RV σ p a → VR ι a x → VR κ p x
  | _, _, _, .dead, .dead => .dead
  | _, _, _, .bool b, .bool _ => .bool b
  | _, _, _, .int k n, .int _ _ => .int k n
  | _, _, _, .str _, .str s => .str s
  | _, _, _, .pnil, .pnil => .pnil
  | _, _, _, .ptr o h, .ptr _ g => .ptr o (hl _ _ _ h g)
  | _, _, _, .snil, .snil => .snil
  | _, _, _, .sl _ _ _ _ h, .slc a b c g => .slc a b c (hl _ _ _ h g)
  | _, _, _, .sl _ _ _ _ h, .slo a b c d e f g h1 h2 h3 h4 h5 => .slo a b c d e f (hl _ _ _ h g) h1 h2 h3 h4 h5
  | _, _, _, .mnil, .mnil => .mnil
  | _, _, _, .mp h, .mp g => .mp (hl _ _ _ h g)
  | _, _, _, .fnil, .fnil => .fnil
  | _, _, _, .fn f ha hb, .fn _ ga gb => .fn f (RVs.back hl ha ga) (RVs.back hl hb gb)
  | _, _, _, .agg h, .agg g => .agg (RVs.back hl h g)
  | _, _, _, .tup h, .tup g => .tup (RVs.back hl h g)
theorem RVs.back {σ : Sg} {ι κ : Mp} (hl : ∀ b c q, σ b = some c → ι c = some q → κ b = some q) : ∀ {p a : List AV} {x : List Value}, RVs σ p a → VRs ι a x → VRs κ p x
  | _, _, _, .nil, .nil => .nil
  | _, _, _, .cons h t, .cons g u => .cons (RV.back hl h g) (RVs.back hl t u)
end
mutual
/-- and from that one to the renamed -/
theorem RV.fwd {σ : Sg} {ι κ : Mp} (hl : ∀ b c q, σ b = some c → κ b = some q → ι c = some q) : ∀ {p a : AV} {x : Value}, RV σ p a → VR κ p x → VR ι a x
  | _, _, _, .dead, .dead => .dead
  | _, _, _, .bool b, .bool _ => .bool b
  | _, _, _, .int k n, .int _ _ => .int k n
  | _, _, _, .str _, .str s => .str s
  | _, _, _, .pnil, .pnil => .pnil
  | _, _, _, .ptr o h, .ptr _ g => .ptr o (hl _ _ _ h g)
  | _, _, _, .snil, .snil => .snil
  | _, _, _, .sl _ _ _ _ h, .slc a b c g => .slc a b c (hl _ _ _ h g)
  | _, _, _, .sl _ _ _ _ h, .slo a b c d e f g h1 h2 h3 h4 h5 => .slo a b c d e f (hl _ _ _ h g) h1 h2 h3 h4 h5
  | _, _, _, .mnil, .mnil => .mnil
  | _, _, _, .mp h, .mp g => .mp (hl _ _ _ h g)
  | _, _, _, .fnil, .fnil => .fnil
  | _, _, _, .fn f ha hb, .fn _ ga gb => .fn f (RVs.fwd hl ha ga) (RVs.fwd hl hb gb)
  | _, _, _, .agg h, .agg g => .agg (RVs.fwd hl h g)
  | _, _, _, .tup h, .tup g => .tup (RVs.fwd hl h g)
theorem RVs.fwd {σ : Sg} {ι κ : Mp} (hl : ∀ b c q, σ b = some c → κ b = some q → ι c = some q) : ∀ {p a : List AV} {x : List Value}, RVs σ p a → VRs κ p x → VRs ι a x
  | _, _, _, .nil, .nil => .nil
  | _, _, _, .cons h t, .cons g u => .cons (RV.fwd hl h g) (RVs.fwd hl t u)
end
mutual
/-- do the numbers of a value all fulfil K? -/
def idsV (K : Nat → Bool) : AV → Bool
  | .ptr b _ => K b
  | .sl b _ _ _ _ => K b
  | .mp b => K b
  | .fn _ a b => idsL K a && idsL K b
  | .agg l => idsL K l
  | .tup l => idsL K l
  | .yld _ => false
  | _ => true
def idsL (K : Nat → Bool) : List AV → Bool
  | [] => true
  | v :: r => idsV K v && idsL K r
end
/-- a renaming, of such numbers alone -/
def cutS (K : Nat → Bool) (σ : Sg) : Sg := fun b => if K b then σ b else none
theorem cutS_spec {K : Nat → Bool} {σ : Sg} {b c : Nat} (h : cutS K σ b = some c) : K b = true ∧ σ b = some c := by
  unfold cutS at h
  split at h
  · rename_i e; exact ⟨e, h⟩
  · cases h
theorem cutS_mk {K : Nat → Bool} {σ : Sg} {b c : Nat} (hk : K b = true) (h : σ b = some c) : cutS K σ b = some c := by unfold cutS; rw [if_pos hk]; exact h
mutual
theorem RV.cut {K : Nat → Bool} {σ : Sg} : ∀ {p a : AV}, RV σ p a → idsV K p = true → RV (cutS K σ) p a
  | _, _, .dead, _ => .dead
  | _, _, .bool b, _ => .bool b
  | _, _, .int k n, _ => .int k n
  | _, _, .str s, _ => .str s
  | _, _, .pnil, _ => .pnil
  | _, _, .ptr o h, hk => .ptr o (cutS_mk (by simpa [idsV] using hk) h)
  | _, _, .snil, _ => .snil
  | _, _, .sl a b c d h, hk => .sl a b c d (cutS_mk (by simpa [idsV] using hk) h)
  | _, _, .mnil, _ => .mnil
  | _, _, .mp h, hk => .mp (cutS_mk (by simpa [idsV] using hk) h)
  | _, _, .fnil, _ => .fnil
  | _, _, .fn f ha hb, hk => .fn f (RVs.cut ha (by simp only [idsV, Bool.and_eq_true] at hk; exact hk.1)) (RVs.cut hb (by simp only [idsV, Bool.and_eq_true] at hk; exact hk.2))
  | _, _, .agg h, hk => .agg (RVs.cut h (by simpa only [idsV] using hk))
  | _, _, .tup h, hk => .tup (RVs.cut h (by simpa only [idsV] using hk))
theorem RVs.cut {K : Nat → Bool} {σ : Sg} : ∀ {p a : List AV}, RVs σ p a → idsL K p = true → RVs (cutS K σ) p a
  | _, _, .nil, _ => .nil
  | _, _, .cons h t, hk => .cons (RV.cut h (by simp only [idsL, Bool.and_eq_true] at hk; exact hk.1)) (RVs.cut t (by simp only [idsL, Bool.and_eq_true] at hk; exact hk.2))
end
theorem RVs.length {σ : Sg} : ∀ {l m : List AV}, RVs σ l m → l.length = m.length
  | _, _, .nil => rfl
  | _, _, .cons _ t => by simp [RVs.length t]
theorem RVs.get {σ : Sg} : ∀ {l m : List AV}, RVs σ l m → ∀ {i : Nat} {a : AV}, l[i]? = some a → ∃ b, m[i]? = some b ∧ RV σ a b
  | _, _, .nil, i, a, h => by simp at h
  | _, _, .cons h t, 0, a, hi => by simp at hi; subst hi; exact ⟨_, by simp, h⟩
  | _, _, .cons h t, i + 1, a, hi => by simp at hi ⊢; exact RVs.get t hi
theorem RVs.get' {σ : Sg} : ∀ {l m : List AV}, RVs σ l m → ∀ {i : Nat} {b : AV}, m[i]? = some b → ∃ a, l[i]? = some a ∧ RV σ a b
  | _, _, .nil, i, a, h => by simp at h
  | _, _, .cons h t, 0, a, hi => by simp at hi; subst hi; exact ⟨_, by simp, h⟩
  | _, _, .cons h t, i + 1, a, hi => by simp at hi ⊢; exact RVs.get' t hi

theorem RV.u8 {σ : Sg} {p a : AV} (h : RV σ p a) : u8V p = u8V a := by cases h <;> rfl
theorem RVs.u8 {σ : Sg} : ∀ {l m : List AV}, RVs σ l m → l.all u8V = m.all u8V
  | _, _, .nil => rfl
  | _, _, .cons h t => by simp only [List.all_cons, RV.u8 h, RVs.u8 t]

/-! objects -/
inductive RE (σ : Sg) : List (AV × AV × Nat) → List (AV × AV × Nat) → Prop
  | nil : RE σ [] []
  | cons {k v k' v' : AV} (b : Nat) {l m : List (AV × AV × Nat)} (hk : RV σ k k') (hv : RV σ v v') (t : RE σ l m) : RE σ ((k, v, b) :: l) ((k', v', b) :: m)
inductive RO (σ : Sg) : Obj → Obj → Prop
  | cells {l m : List AV} (h : RVs σ l m) : RO σ (.cells l) (.cells m)
  | map {l m : List (AV × AV × Nat)} (c : Nat) (h : RE σ l m) : RO σ (.map l c) (.map m c)
theorem RE.mono {σ τ : Sg} (hl : ∀ b c, σ b = some c → τ b = some c) {l m : List (AV × AV × Nat)} (h : RE σ l m) : RE τ l m := by
  induction h with
  | nil => exact .nil
  | cons b hk hv _ ih => exact .cons b (hk.mono hl) (hv.mono hl) ih
theorem RO.mono {σ τ : Sg} (hl : ∀ b c, σ b = some c → τ b = some c) {p a : Obj} (h : RO σ p a) : RO τ p a := by
  cases h with
  | cells h => exact .cells (h.mono hl)
  | map c h => exact .map c (h.mono hl)
theorem RE.back {σ : Sg} {ι κ : Mp} (hl : ∀ b c q, σ b = some c → ι c = some q → κ b = some q) {l m : List (AV × AV × Nat)} (h : RE σ l m) : ∀ {e : List MapEntry}, ER ι m e → ER κ l e := by
  induction h with
  | nil => intro e he; cases he; exact .nil
  | cons b hk hv _ ih => intro e he; cases he with | cons gk gv gb gt => exact .cons (hk.back hl gk) (hv.back hl gv) gb (ih gt)
theorem RE.fwd {σ : Sg} {ι κ : Mp} (hl : ∀ b c q, σ b = some c → κ b = some q → ι c = some q) {l m : List (AV × AV × Nat)} (h : RE σ l m) : ∀ {e : List MapEntry}, ER κ l e → ER ι m e := by
  induction h with
  | nil => intro e he; cases he; exact .nil
  | cons b hk hv _ ih => intro e he; cases he with | cons gk gv gb gt => exact .cons (hk.fwd hl gk) (hv.fwd hl gv) gb (ih gt)
theorem RO.back {σ : Sg} {ι κ : Mp} (hl : ∀ b c q, σ b = some c → ι c = some q → κ b = some q) {p a : Obj} {pl : Place} {x : Option Go.Obj} (h : RO σ p a) (hr : ObjR ι pl x a) : ObjR κ pl x p := by
  cases h with
  | cells h =>
    obtain ⟨c, e, fz, h1, h2, h3, h4, h5⟩ := hr
    refine ⟨c, e, fz, h1, h2, by rw [h.length]; exact h3, by rw [h.u8]; exact h4, fun i v hv => ?_⟩
    obtain ⟨b, hb, hrv⟩ := h.get hv
    obtain ⟨y, hy, hvr⟩ := h5 i b hb
    exact ⟨y, hy, hrv.back hl hvr⟩
  | map c h => obtain ⟨es', h1, h2⟩ := hr; exact ⟨es', h1, h.back hl h2⟩
theorem RO.fwd {σ : Sg} {ι κ : Mp} (hl : ∀ b c q, σ b = some c → κ b = some q → ι c = some q) {p a : Obj} {pl : Place} {x : Option Go.Obj} (h : RO σ p a) (hr : ObjR κ pl x p) : ObjR ι pl x a := by
  cases h with
  | cells h =>
    obtain ⟨c, e, fz, h1, h2, h3, h4, h5⟩ := hr
    refine ⟨c, e, fz, h1, h2, by rw [← h.length]; exact h3, by rw [← h.u8]; exact h4, fun i v hv => ?_⟩
    obtain ⟨b, hb, hrv⟩ := h.get' hv
    obtain ⟨y, hy, hvr⟩ := h5 i b hb
    exact ⟨y, hy, hrv.fwd hl hvr⟩
  | map c h => obtain ⟨es', h1, h2⟩ := hr; exact ⟨es', h1, h.fwd hl h2⟩
def idsE (K : Nat → Bool) : List (AV × AV × Nat) → Bool
  | [] => true
  | (k, v, _) :: r => idsV K k && idsV K v && idsE K r
def idsO (K : Nat → Bool) : Obj → Bool
  | .cells l => idsL K l
  | .map l _ => idsE K l
  | .loop _ => false
theorem RE.cut {K : Nat → Bool} {σ : Sg} {l m : List (AV × AV × Nat)} (h : RE σ l m) : idsE K l = true → RE (cutS K σ) l m := by
  induction h with
  | nil => intro _; exact .nil
  | cons b hk hv _ ih =>
    intro h
    simp only [idsE, Bool.and_eq_true] at h
    exact .cons b (hk.cut h.1.1) (hv.cut h.1.2) (ih h.2)
theorem RO.cut {K : Nat → Bool} {σ : Sg} {p a : Obj} (hk : idsO K p = true) (h : RO σ p a) : RO (cutS K σ) p a := by
  cases h with
  | cells h => exact .cells (h.cut hk)
  | map c h => exact .map c (h.cut hk)

/-! fitting -/
def Sub (ρ ρ' : Ren) : Prop := ∀ b c, renGet ρ b = some c → renGet ρ' b = some c
def Inj (ρ : Ren) : Prop := ∀ a b c, renGet ρ a = some c → renGet ρ b = some c → a = b
def MapsTo (ι : Mp) (ρ : Ren) : Prop := ∀ b c, renGet ρ b = some c → ∃ p, ι c = some p
theorem Sub.refl (ρ : Ren) : Sub ρ ρ := fun _ _ h => h
theorem Sub.trans {a b c : Ren} (h : Sub a b) (g : Sub b c) : Sub a c := fun x y k => g x y (h x y k)
theorem renGet_has : ∀ {ρ : Ren} {a c : Nat}, renGet ρ a = some c → renHas ρ c = true
  | [], _, _, h => by simp [renGet] at h
  | (x, y) :: r, a, c, h => by
    simp only [renGet] at h
    simp only [renHas, Bool.or_eq_true]
    split at h
    · simp at h; subst h; exact .inl (Nat.beq_refl _)
    · exact .inr (renGet_has h)
theorem bindB_spec {ρ ρ' : Ren} {a b : Nat} (h : bindB ρ a b = some ρ') : Sub ρ ρ' ∧ (Inj ρ → Inj ρ') ∧ renGet ρ' a = some b ∧ ∀ ι p, ι b = some p → MapsTo ι ρ → MapsTo ι ρ' := by
  unfold bindB at h
  cases hg : renGet ρ a with
  | some c =>
    rw [hg] at h
    simp only at h
    split at h
    · rename_i e
      simp at h; subst h
      have := Nat.eq_of_beq_eq_true e
      subst this
      exact ⟨Sub.refl _, fun h => h, hg, fun _ _ _ h => h⟩
    · cases h
  | none =>
    rw [hg] at h
    simp only at h
    split at h
    · cases h
    · rename_i e
      simp at h; subst h
      have hget : ∀ x, renGet ((a, b) :: ρ) x = if a = x then some b else renGet ρ x := fun x => by
        simp only [renGet]
        by_cases e : a = x
        · subst e; simp
        · rw [if_neg e]
          have : Nat.beq a x = false := by
            cases hb : Nat.beq a x with
            | false => rfl
            | true => exact absurd (Nat.eq_of_beq_eq_true hb) e
          simp [this]
      refine ⟨fun x y hx => ?_, fun hi x y z hx hy => ?_, by rw [hget, if_pos rfl], fun ι p hp hm x y hx => ?_⟩
      · rw [hget, if_neg (fun e => by subst e; rw [hg] at hx; cases hx)]; exact hx
      · rw [hget] at hx hy
        split at hx <;> split at hy
        · rename_i e1 e2; exact e1.symm.trans e2
        · simp at hx; subst hx
          exact absurd (renGet_has hy) e
        · simp at hy; subst hy
          exact absurd (renGet_has hx) e
        · exact hi x y z hx hy
      · rw [hget] at hx
        split at hx
        · simp at hx; subst hx; exact ⟨p, hp⟩
        · exact hm x y hx
/-- what a fit tells -/
structure FitV (p a : AV) (ρ ρ' : Ren) : Prop where
  sub : Sub ρ ρ'
  inj : Inj ρ → Inj ρ'
  rv : RV (renGet ρ') p a
  maps : ∀ (ι : Mp) (x : Value), VR ι a x → MapsTo ι ρ → MapsTo ι ρ'
structure FitVs (p a : List AV) (ρ ρ' : Ren) : Prop where
  sub : Sub ρ ρ'
  inj : Inj ρ → Inj ρ'
  rv : RVs (renGet ρ') p a
  maps : ∀ (ι : Mp) (x : List Value), VRs ι a x → MapsTo ι ρ → MapsTo ι ρ'
theorem FitV.same {p a : AV} {ρ : Ren} (h : RV (renGet ρ) p a) : FitV p a ρ ρ := ⟨Sub.refl _, fun h => h, h, fun _ _ _ h => h⟩
theorem fit0_spec {p a : AV} {ρ ρ' : Ren} (h : fit0 p a ρ = some ρ') : FitV p a ρ ρ' := by
  unfold fit0 at h
  split at h
  · simp at h; subst h; exact .same .dead
  · split at h
    · rename_i e; simp at h e; subst h; subst e; exact .same (.bool _)
    · cases h
  · split at h
    · rename_i e; simp at h e; obtain ⟨rfl, rfl⟩ := e; subst h; exact .same (.int _ _)
    · cases h
  · split at h
    · rename_i e; simp at h e; subst h; subst e; exact .same (.str _)
    · cases h
  · simp at h; subst h; exact .same .pnil
  · split at h
    · rename_i e
      have := Nat.eq_of_beq_eq_true e
      subst this
      obtain ⟨h1, h2, h3, h4⟩ := bindB_spec h
      exact ⟨h1, h2, .ptr _ h3, fun ι x hv hm => by cases hv with | ptr _ hp => exact h4 ι _ hp hm⟩
    · cases h
  · simp at h; subst h; exact .same .snil
  · split at h
    · rename_i e
      simp only [Bool.and_eq_true] at e
      obtain ⟨⟨⟨e1, e2⟩, e3⟩, e4⟩ := e
      have := Nat.eq_of_beq_eq_true e1
      have := Nat.eq_of_beq_eq_true e2
      have := Nat.eq_of_beq_eq_true e3
      have := Nat.eq_of_beq_eq_true e4
      subst_vars
      obtain ⟨h1, h2, h3, h4⟩ := bindB_spec h
      exact ⟨h1, h2, .sl _ _ _ _ h3, fun ι x hv hm => by
        cases hv with
        | slc _ _ _ hp => exact h4 ι _ hp hm
        | slo _ _ _ _ _ _ hp _ _ _ _ _ => exact h4 ι _ hp hm⟩
    · cases h
  · simp at h; subst h; exact .same .mnil
  · obtain ⟨h1, h2, h3, h4⟩ := bindB_spec h
    exact ⟨h1, h2, .mp h3, fun ι x hv hm => by cases hv with | mp hp => exact h4 ι _ hp hm⟩
  · simp at h; subst h; exact .same .fnil
  · split at h
    · rename_i e
      have := Nat.eq_of_beq_eq_true e
      subst this
      simp at h; subst h
      exact .same (.fn _ .nil .nil)
    · cases h
  · cases h
theorem fitL_spec {ft : AV → AV → Ren → Option Ren} (hft : ∀ p a ρ ρ', ft p a ρ = some ρ' → FitV p a ρ ρ') : ∀ {p a : List AV} {ρ ρ' : Ren}, fitL ft p a ρ = some ρ' → FitVs p a ρ ρ'
  | [], [], ρ, ρ', h => by simp [fitL] at h; subst h; exact ⟨Sub.refl _, fun h => h, .nil, fun _ _ _ h => h⟩
  | p :: ps, a :: as', ρ, ρ', h => by
    simp only [fitL] at h
    split at h
    · rename_i ρ1 h1
      have s1 := hft _ _ _ _ h1
      have s2 := fitL_spec hft h
      exact ⟨s1.sub.trans s2.sub, fun hi => s2.inj (s1.inj hi), .cons (s1.rv.mono s2.sub) s2.rv, fun ι x hv hm => by cases hv with | cons hv ht => exact s2.maps ι _ ht (s1.maps ι _ hv hm)⟩
    · cases h
  | [], _ :: _, _, _, h => by simp [fitL] at h
  | _ :: _, [], _, _, h => by simp [fitL] at h
theorem fit1_spec {p a : AV} {ρ ρ' : Ren} (h : fit1 p a ρ = some ρ') : FitV p a ρ ρ' := by
  unfold fit1 at h
  split at h
  · have s := fitL_spec (fun _ _ _ _ => fit0_spec) h
    exact ⟨s.sub, s.inj, .agg s.rv, fun ι x hv hm => by cases hv with | agg hv => exact s.maps ι _ hv hm⟩
  · split at h
    · rename_i e
      have := Nat.eq_of_beq_eq_true e
      subst this
      split at h
      · rename_i ρ1 h1
        have s1 := fitL_spec (fun _ _ _ _ => fit0_spec) h1
        have s2 := fitL_spec (fun _ _ _ _ => fit0_spec) h
        exact ⟨s1.sub.trans s2.sub, fun hi => s2.inj (s1.inj hi), .fn _ (s1.rv.mono s2.sub) s2.rv, fun ι x hv hm => by cases hv with | fn _ ha hb => exact s2.maps ι _ hb (s1.maps ι _ ha hm)⟩
      · cases h
    · cases h
  · exact fit0_spec h
theorem fit2_spec {p a : AV} {ρ ρ' : Ren} (h : fit2 p a ρ = some ρ') : FitV p a ρ ρ' := by
  unfold fit2 at h
  split at h
  · have s := fitL_spec (fun _ _ _ _ => fit1_spec) h
    exact ⟨s.sub, s.inj, .tup s.rv, fun ι x hv hm => by cases hv with | tup hv => exact s.maps ι _ hv hm⟩
  · exact fit1_spec h
structure FitO (p a : Obj) (ρ ρ' : Ren) : Prop where
  sub : Sub ρ ρ'
  inj : Inj ρ → Inj ρ'
  ro : RO (renGet ρ') p a
  maps : ∀ (ι : Mp) (pl : Place) (x : Option Go.Obj), ObjR ι pl x a → MapsTo ι ρ → MapsTo ι ρ'
theorem fitE_spec : ∀ {p a : List (AV × AV × Nat)} {ρ ρ' : Ren}, fitE p a ρ = some ρ' → Sub ρ ρ' ∧ (Inj ρ → Inj ρ') ∧ RE (renGet ρ') p a ∧ ∀ (ι : Mp) (e : List MapEntry), ER ι a e → MapsTo ι ρ → MapsTo ι ρ'
  | [], [], ρ, ρ', h => by simp [fitE] at h; subst h; exact ⟨Sub.refl _, fun h => h, .nil, fun _ _ _ h => h⟩
  | (k, v, b) :: ps, (k', v', b') :: as', ρ, ρ', h => by
    simp only [fitE] at h
    split at h
    · rename_i e
      have := Nat.eq_of_beq_eq_true e
      subst this
      split at h
      · rename_i ρ1 h1
        split at h
        · rename_i ρ2 h2
          have s1 := fit1_spec h1
          have s2 := fit1_spec h2
          obtain ⟨t1, t2, t3, t4⟩ := fitE_spec h
          exact ⟨(s1.sub.trans s2.sub).trans t1, fun hi => t2 (s2.inj (s1.inj hi)), .cons _ (s1.rv.mono (s2.sub.trans t1)) (s2.rv.mono t1) t3,
            fun ι e he hm => by cases he with | cons hk hv hb ht => exact t4 ι _ ht (s2.maps ι _ hv (s1.maps ι _ hk hm))⟩
        · cases h
      · cases h
    · cases h
  | [], _ :: _, _, _, h => by simp [fitE] at h
  | _ :: _, [], _, _, h => by simp [fitE] at h
theorem VRs.ofGet {ι : Mp} : ∀ {l : List AV} (F : Nat → Option Value), (∀ (i : Nat) (v : AV), l[i]? = some v → ∃ y, F i = some y ∧ VR ι v y) → ∃ xs, VRs ι l xs
  | [], _, _ => ⟨[], .nil⟩
  | v :: l, F, h => by
    obtain ⟨y, _, hv⟩ := h 0 v (by simp)
    obtain ⟨xs, hx⟩ := VRs.ofGet (l := l) (fun i => F (i + 1)) (fun i u hu => h (i + 1) u (by simpa using hu))
    exact ⟨y :: xs, .cons hv hx⟩
theorem fitO_spec {p a : Obj} {ρ ρ' : Ren} (h : fitO p a ρ = some ρ') : FitO p a ρ ρ' := by
  unfold fitO at h
  split at h
  · have s := fitL_spec (fun _ _ _ _ => fit1_spec) h
    refine ⟨s.sub, s.inj, .cells s.rv, fun ι pl x hr hm => ?_⟩
    obtain ⟨c, e, fz, h1, h2, h3, h4, h5⟩ := hr
    obtain ⟨xs, hx⟩ := VRs.ofGet (fun i => c[pl.base + i]?) h5
    exact s.maps ι xs hx hm
  · split at h
    · rename_i e
      have := Nat.eq_of_beq_eq_true e
      subst this
      obtain ⟨t1, t2, t3, t4⟩ := fitE_spec h
      exact ⟨t1, t2, .map _ t3, fun ι pl x hr hm => by obtain ⟨es', h1, h2⟩ := hr; exact t4 ι _ h2 hm⟩
    · cases h
  · cases h
theorem fitH_spec {h : HT} : ∀ {l : List (Nat × Obj)} {ρ ρ' : Ren}, fitH h l ρ = some ρ' → Sub ρ ρ' ∧ (Inj ρ → Inj ρ') ∧ (∀ b o, (b, o) ∈ l → ∃ b' o', renGet ρ' b = some b' ∧ hget h b' = some o' ∧ RO (renGet ρ') o o') ∧
    ∀ (ι : Mp), (∀ b o p, hget h b = some o → ι b = some p → ∃ pl x, ObjR ι pl x o) → MapsTo ι ρ → MapsTo ι ρ'
  | [], ρ, ρ', hs => by simp [fitH] at hs; subst hs; exact ⟨Sub.refl _, fun h => h, (fun b o hb => by cases hb), fun _ _ h => h⟩
  | (b, o) :: r, ρ, ρ', hs => by
    simp only [fitH] at hs
    split at hs
    · rename_i b' hb'
      split at hs
      · rename_i o' ho'
        split at hs
        · rename_i ρ1 h1
          have s1 := fitO_spec h1
          obtain ⟨t1, t2, t3, t4⟩ := fitH_spec hs
          refine ⟨s1.sub.trans t1, fun hi => t2 (s1.inj hi), fun c q hc => ?_, fun ι hobj hm => ?_⟩
          · rcases List.mem_cons.1 hc with e | hc
            · cases e
              exact ⟨b', o', t1 _ _ (s1.sub _ _ hb'), ho', s1.ro.mono t1⟩
            · exact t3 c q hc
          · obtain ⟨p, hp⟩ := hm _ _ hb'
            obtain ⟨pl, x, hr⟩ := hobj b' o' p ho' hp
            exact t4 ι hobj (s1.maps ι pl x hr hm)
        · cases hs
      · cases hs
    · cases hs

/-! renaming -/
theorem ren0_spec {ρ : Ren} {n0 nx : Nat} {p a : AV} (h : ren0 ρ n0 nx p = some a) : RV (renB ρ n0 nx) p a := by
  unfold ren0 at h
  split at h
  · split at h
    · rename_i hb; simp at h; subst h; exact .ptr _ hb
    · cases h
  · split at h
    · rename_i hb; simp at h; subst h; exact .sl _ _ _ _ hb
    · cases h
  · split at h
    · rename_i hb; simp at h; subst h; exact .mp hb
    · cases h
  · simp at h; subst h; exact .fn _ .nil .nil
  · cases h
  · cases h
  · cases h
  · cases h
  · simp at h; subst h
    cases p <;> first
      | exact .dead | exact .bool _ | exact .int _ _ | exact .str _ | exact .pnil | exact .snil | exact .mnil | exact .fnil
      | (rename_i h1 h2 h3 h4 h5 h6 h7 h8; first | exact absurd rfl (h1 _ _) | exact absurd rfl (h2 _ _ _ _ _) | exact absurd rfl (h3 _) | exact absurd rfl (h5 _ _ _) | exact absurd rfl (h6 _) | exact absurd rfl (h7 _) | exact absurd rfl (h8 _))
      | (simp_all; done)
theorem renList_spec {σ : Sg} {f : AV → Option AV} (hf : ∀ p a, f p = some a → RV σ p a) : ∀ {l m : List AV}, renList f l = some m → RVs σ l m
  | [], m, h => by simp [renList] at h; subst h; exact .nil
  | v :: r, m, h => by
    simp only [renList] at h
    split at h
    · rename_i a ha
      split at h
      · rename_i s hs
        simp at h; subst h
        exact .cons (hf _ _ ha) (renList_spec hf hs)
      · cases h
    · cases h
theorem ren1_spec {ρ : Ren} {n0 nx : Nat} {p a : AV} (h : ren1 ρ n0 nx p = some a) : RV (renB ρ n0 nx) p a := by
  unfold ren1 at h
  split at h
  · split at h
    · rename_i hl; simp at h; subst h; exact .agg (renList_spec (fun _ _ => ren0_spec) hl)
    · cases h
  · split at h
    · rename_i ha hb; simp at h; subst h; exact .fn _ (renList_spec (fun _ _ => ren0_spec) ha) (renList_spec (fun _ _ => ren0_spec) hb)
    · cases h
  · exact ren0_spec h
theorem ren2_spec {ρ : Ren} {n0 nx : Nat} {p a : AV} (h : ren2 ρ n0 nx p = some a) : RV (renB ρ n0 nx) p a := by
  unfold ren2 at h
  split at h
  · split at h
    · rename_i hl; simp at h; subst h; exact .tup (renList_spec (fun _ _ => ren1_spec) hl)
    · cases h
  · exact ren1_spec h
theorem renE_spec {ρ : Ren} {n0 nx : Nat} : ∀ {l m : List (AV × AV × Nat)}, renE ρ n0 nx l = some m → RE (renB ρ n0 nx) l m
  | [], m, h => by simp [renE] at h; subst h; exact .nil
  | (k, v, b) :: r, m, h => by
    simp only [renE] at h
    split at h
    · rename_i hk hv hr
      simp at h; subst h
      exact .cons b (ren1_spec hk) (ren1_spec hv) (renE_spec hr)
    · cases h
theorem renO_spec {ρ : Ren} {n0 nx : Nat} {p a : Obj} (h : renO ρ n0 nx p = some a) : RO (renB ρ n0 nx) p a := by
  unfold renO at h
  split at h
  · split at h
    · rename_i hl; simp at h; subst h; exact .cells (renList_spec (fun _ _ => ren1_spec) hl)
    · cases h
  · split at h
    · rename_i hl; simp at h; subst h; exact .map _ (renE_spec hl)
    · cases h
  · cases h
theorem newUps_spec {ρ : Ren} {n0 nx : Nat} : ∀ {l : List Obj} {n : Nat} {u : Ups}, newUps ρ n0 nx n l = some u → ∀ b o, (b, some o) ∈ u → ∃ i p, l[i]? = some p ∧ b = n + i ∧ renO ρ n0 nx p = some o
  | [], n, u, h, b, o, hm => by simp [newUps] at h; subst h; cases hm
  | q :: r, n, u, h, b, o, hm => by
    simp only [newUps] at h
    split at h
    · rename_i o' u' ho hu
      simp at h; subst h
      rcases List.mem_cons.1 hm with e | hm
      · cases e; exact ⟨0, q, by simp, by simp, ho⟩
      · obtain ⟨i, p, h1, h2, h3⟩ := newUps_spec hu b o hm
        exact ⟨i + 1, p, by simpa using h1, by omega, h3⟩
    · cases h
theorem hget_upsH : ∀ {u : Ups} {h : HT} {b : Nat} {o : Obj}, hget (upsH h u) b = some o → (b, some o) ∈ u ∨ hget h b = some o
  | [], _, _, _, h => .inr h
  | (c, q) :: r, h, b, o, hg => by
    have hg' : hget (upsH (hset h c q) r) b = some o := hg
    rcases hget_upsH hg' with h1 | h1
    · exact .inl (List.mem_cons_of_mem _ h1)
    · rcases hget_hset h1 with ⟨rfl, rfl⟩ | ⟨_, h2⟩
      · exact .inl (by simp)
      · exact .inr h2
end Go.Ev.F
