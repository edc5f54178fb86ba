/- Proved here: what the kernel's run of code tells is what the model does. -/
import Derived.Test.YtnbhgeehlcjmdaaGreatV28
import Derived.RangeFuncRecord
namespace Go.Ev.F
open Go Go.Ev
variable {f g : Fr} {h : HT} {nx m : Nat} {o : O} {cf yf : CF}

/-! what a run leaves -/
def O.exit : O → Exit | .nrm .. => .normal | .ex id .. => .exit id | .ret .. => .ret | .fail => .outgrown
def O.F : O → Fr | .nrm f _ _ _ => f | .ex _ f _ _ _ => f | .ret f _ _ _ => f | .fail => .nil
def O.G : O → Fr | .nrm _ g _ _ => g | .ex _ _ g _ _ => g | .ret _ g _ _ => g | .fail => .nil
def O.H : O → HT | .nrm _ _ h _ => h | .ex _ _ _ h _ => h | .ret _ _ h _ => h | .fail => .e
def O.N : O → Nat | .nrm _ _ _ n => n | .ex _ _ _ _ n => n | .ret _ _ _ n => n | .fail => 0
/-- the marks that ranges over functions leave among the deferred calls -/
def Marks (Bh : Nat → Prop) : List Deferred → World → Prop
  | [], _ => True
  | d :: ds, w => (∃ r, d.target = .collected r ∧ Bh r ∧ w.heap[r]? = some (.deferred (some [])) ∧ ∀ d' ∈ ds, d'.target ≠ .collected r) ∧ Marks Bh ds w
theorem Marks.keep {Bh : Nat → Prop} {w w' : World} (hk : ∀ r : Nat, w.heap[r]? = some (Go.Obj.deferred (some [])) → w'.heap[r]? = some (Go.Obj.deferred (some []))) : ∀ {ds : List Deferred}, Marks Bh ds w → Marks Bh ds w'
  | [], _ => trivial
  | _ :: _, ⟨⟨r, h1, hb, h2, h3⟩, ht⟩ => ⟨⟨r, h1, hb, hk r h2, h3⟩, Marks.keep hk ht⟩
theorem ObjR.notDef {ι : Mp} {p : Place} {x : Obj} {y : Option (List Deferred)} (h : ObjR ι p (some (.deferred y)) x) : False := by
  cases x with
  | cells vs => obtain ⟨c, e, fz, h1, _⟩ := h; cases h1
  | map es cl => obtain ⟨es', h1, _⟩ := h; cases h1
  | loop r => obtain ⟨L, h1, _⟩ := h; cases h1
/-- the blocks that live objects stand in, and new ones -/
abbrev Loc (h : HT) (ι : Mp) (w : World) (hi : Nat) : Bd := ⟨fun k => (∃ b o p, hget h b = some o ∧ ι b = some p ∧ p.blk = k) ∨ w.heap.size ≤ k, hi⟩
theorem Loc.marks {Bh : Nat → Prop} {B : Bd} {w0 w w' : World} {ι ι' : Mp} {h h' : HT} {nx nx' hi : Nat} (S : Sim B w0 ι h nx w) (S' : Sim (Loc h ι w hi) w ι' h' nx' w') {ds : List Deferred} (hm : Marks Bh ds w) : Marks Bh ds w' := by
  refine hm.keep fun r hr => ?_
  rw [S'.old r ?_]
  · exact hr
  · rintro (⟨b, o, p, hb, hp, rfl⟩ | hge)
    · have := S.objs b o p hb hp
      rw [hr] at this
      exact ObjR.notDef this
    · rw [Array.getElem?_eq_none hge] at hr; cases hr

/-- what code comes to; r: within a round -/
def CodeSpec (r : Bool) (c : Code) (m : Nat) (f g : Fr) (h : HT) (nx : Nat) (o : O) : Prop :=
  nx ≤ o.N ∧ ∀ (F : Fence), Open F → (r = false → F = Fence.wide) → ∀ (B : Bd) (w0 : World) (ι : Mp) (w : World) (a : Act) (Q : Exit → Act → World → Prop), Sim B w0 ι h nx w → o.N ≤ B.hi → FR ι (look m f g) a.tmps → fits r a.tmps.size c = true → Marks B.has a.defers w →
    (∀ ι' a' w', Mp.up o.N ι ι' → FR ι' (look m o.F o.G) a'.tmps → a'.tmps.size = a.tmps.size → Marks B.has a'.defers w' → Sim B w0 ι' o.H o.N w' → Q o.exit a' w') → c.wpIn F 0 P Q a w

theorem thenK_inv {e : O} {k : K4} (ho : o ≠ .fail) (hs : thenK e k = o) : (∃ f g h n, e = .nrm f g h n ∧ k f g h n = o) ∨ (e = o ∧ ∀ f g h n, e ≠ .nrm f g h n) := by
  cases e with
  | nrm f g h n => exact .inl ⟨f, g, h, n, rfl, hs⟩
  | ex id f g h n => exact .inr ⟨hs, by intro f g h n e; cases e⟩
  | ret f g h n => exact .inr ⟨hs, by intro f g h n e; cases e⟩
  | fail => exact absurd hs.symm ho
theorem FR.mask {ι : Mp} {tmps : Array Value} (hf : FR ι (look m f g) tmps) : FR ι (look m f .nil) tmps := by
  intro t v hv
  refine hf t v ?_
  unfold look at hv ⊢
  split at hv
  · rename_i e; rw [if_pos e]; exact hv
  · cases hv
theorem follows_mixed : P.follows .mixedOrders = true := by decide

theorem code_skip {r : Bool} : CodeSpec r .skip m f g h nx (.nrm f g h nx) :=
  ⟨Nat.le_refl _, fun _ _ _ _ _ ι _ _ _ S _ hf _ hm hQ => wpIn_skip (hQ ι _ _ (Mp.up.refl _ _) hf rfl hm S)⟩
theorem code_region {r d : Bool} {id : Nat} {ops : Array Oper} (hc : CFok cf) (hy : YFok yf) (ho : o ≠ .fail) (hs : regionK d ops.toList cf yf m f g h nx = o) : CodeSpec r (.region id ops d) m f g h nx o := by
  cases d with
  | false =>
    obtain ⟨f', g', h', n', rfl, hm1, hreg⟩ := ordered_spec hc hy ho hs
    refine ⟨hm1, fun F hF _ B w0 ι w a Q S hhi hf hfit hm hQ => wpIn_region ?_⟩
    refine hreg F hF _ _ ι w a Q (S.rebase (hi := n') fun b h1 h2 => S.fresh b h1 (Nat.lt_of_lt_of_le h2 hhi)) (Nat.le_refl _) (FR.mask hf) hfit fun ι' a' w' k1 k2 k3 k4 S' => ?_
    exact hQ ι' a' w' k1 k2 k3 (by rw [k4]; exact Loc.marks S S' hm) (S.back S' fun b h1 h2 => (k1.2 b h1).trans (S.fresh b (Nat.le_trans hm1 h1) h2))
  | true =>
    obtain ⟨f', g', h', n', rfl, hm1, hreg⟩ := drawn_spec hc hy ho hs
    refine ⟨hm1, fun F hF _ B w0 ι w a Q S hhi hf hfit hm hQ => wpIn_region_any follows_mixed ?_⟩
    have S1 : Sim B w0 ι h nx { w with drawn := w.drawn + 1 } := S.alike rfl rfl rfl rfl
    refine hreg F hF _ _ ι _ a Q (S1.rebase (hi := n') fun b h1 h2 => S.fresh b h1 (Nat.lt_of_lt_of_le h2 hhi)) (Nat.le_refl _) (FR.mask hf) hfit fun ι' a' w' k1 k2 k3 k4 S' => ?_
    have hm' : Marks B.has a.defers { w with drawn := w.drawn + 1 } := Marks.keep (w := w) (w' := { w with drawn := w.drawn + 1 }) (fun _ h => h) hm
    exact hQ ι' a' w' k1 k2 k3 (by rw [k4]; exact Loc.marks S1 S' hm') (S1.back S' fun b h1 h2 => (k1.2 b h1).trans (S.fresh b (Nat.le_trans hm1 h1) h2))

/-- one behind another -/
theorem code_seq {r : Bool} {x y : Code} {e : O} (he : CodeSpec r x m f g h nx e)
    (hk : (e = o ∧ ∀ f g h n, e ≠ .nrm f g h n) ∨ ∃ f' g' h' n', e = .nrm f' g' h' n' ∧ CodeSpec r y m f' g' h' n' o) : CodeSpec r (.seq x y) m f g h nx o := by
  obtain ⟨h1, h2⟩ := he
  rcases hk with ⟨rfl, hn⟩ | ⟨f', g', h', n', rfl, h3, h4⟩
  · refine ⟨h1, fun F hF hr B w0 ι w a Q S hhi hf hfit hm hQ => wpIn_seq ?_⟩
    simp only [fits, Bool.and_eq_true] at hfit
    refine h2 F hF hr B w0 ι w a _ S hhi hf hfit.1 hm fun ι' a' w' k1 k2 k3 k4 k5 => ?_
    have := hQ ι' a' w' k1 k2 k3 k4 k5
    cases e with
    | nrm f g h n => exact absurd rfl (hn f g h n)
    | _ => exact this
  · refine ⟨Nat.le_trans h1 h3, fun F hF hr B w0 ι w a Q S hhi hf hfit hm hQ => wpIn_seq ?_⟩
    simp only [fits, Bool.and_eq_true] at hfit
    refine h2 F hF hr B w0 ι w a _ S (Nat.le_trans h3 hhi) hf hfit.1 hm fun ι' a' w' k1 k2 k3 k4 k5 => ?_
    exact h4 F hF hr B w0 ι' w' a' _ k5 hhi k2 (by rw [k3]; exact hfit.2) k4 fun ι2 a2 w2 l1 l2 l3 l4 l5 => hQ ι2 a2 w2 (k1.trans l1 h3) l2 (l3.trans k3) l4 l5

theorem blockK_inv {e : O} {id : Nat} (ho : o ≠ .fail) (hs : blockK e id = o) : e ≠ .fail ∧ o.F = e.F ∧ o.G = e.G ∧ o.H = e.H ∧ o.N = e.N ∧ ∀ Q : Exit → Act → World → Prop, ∀ a w, Q o.exit a w → Exit.inBlock id Q e.exit a w := by
  cases e with
  | nrm f g h n => cases hs; exact ⟨by simp, rfl, rfl, rfl, rfl, fun Q a w hq => hq⟩
  | ret f g h n => cases hs; exact ⟨by simp, rfl, rfl, rfl, rfl, fun Q a w hq => hq⟩
  | fail => exact absurd hs.symm ho
  | ex id' f g h n =>
    have hs' : iteK (Nat.beq id' id) (O.nrm f g h n) (.ex id' f g h n) = o := hs
    by_cases e : id' = id
    · subst e
      have : Nat.beq id' id' = true := Nat.beq_refl _
      rw [this] at hs'
      have hs2 : O.nrm f g h n = o := hs'
      subst hs2
      exact ⟨by simp, rfl, rfl, rfl, rfl, fun Q a w hq => by simpa [Exit.inBlock, O.exit] using hq⟩
    · have : Nat.beq id' id = false := by
        cases hb : Nat.beq id' id with
        | false => rfl
        | true => exact absurd (Nat.eq_of_beq_eq_true hb) e
      rw [this] at hs'
      have hs2 : O.ex id' f g h n = o := hs'
      subst hs2
      exact ⟨by simp, rfl, rfl, rfl, rfl, fun Q a w hq => by simpa [Exit.inBlock, O.exit, e] using hq⟩

/-! loops -/
theorem wpIn_loop_ix {F : Fence} {n : Nat} {P : Program} {Q : Exit → Act → World → Prop} {a : Act} {w : World} {c : Code} (I : Nat → Act → World → Prop) (j : Nat) (h0 : I j a w)
    (round : ∀ j a w, I j a w → c.wpIn F n P (Exit.then (fun a' w' => ∃ j', j' < j ∧ I j' a' w') Q) a w) : (Code.loop c).wpIn F n P Q a w := by
  intro b k cs hro hb hr
  have key : ∀ j a w, I j a w →
      ∃ e a' w', Q e a' w' ∧ ArrivesIn (Machine.fenced P F) P (lone (b.atR a (.code c :: .inLoop c :: k)) cs w) b k cs e a' w' := by
    intro j
    induction j using Nat.strongRecOn with
    | _ j ih =>
      intro a w hI
      obtain ⟨e, a₁, w₁, hq, harr⟩ := round j a w hI b (.inLoop c :: k) cs hro hb hr
      cases e with
      | normal =>
        obtain ⟨j', hlt, hI₁⟩ := hq
        obtain ⟨e₂, a₂, w₂, hq₂, harr₂⟩ := ih j' hlt a₁ w₁ hI₁
        exact ⟨e₂, a₂, w₂, hq₂, .of_steps (StepsIn.trans harr (.one (fenced_calm hb hr rfl) stepR_inLoop)) harr₂⟩
      | exit id => exact ⟨_, a₁, w₁, hq, .pass (x := .inLoop c) rfl (fun _ _ => .inl (by simp)) harr⟩
      | goto l => exact ⟨_, a₁, w₁, hq, .pass (x := .inLoop c) rfl (fun _ _ => .inl (by simp)) harr⟩
      | ret => exact ⟨_, a₁, w₁, hq, .pass (x := .inLoop c) rfl (fun _ _ => .inl (by simp)) harr⟩
      | panic ch => exact ⟨_, a₁, w₁, hq, .pass (x := .inLoop c) rfl (fun _ _ => .inl (by simp)) harr⟩
      | outgrown => exact ⟨_, a₁, w₁, hq, .pass (x := .inLoop c) rfl (fun _ _ => .inl (by simp)) harr⟩
  obtain ⟨e, a', w', hq, harr⟩ := key j a w h0
  exact ⟨e, a', w', hq, .of_steps (.one (fenced_calm hb hr rfl) stepR_loop) harr⟩

/-- the same names, each once -/
theorem trim_eq : ∀ (f : Fr) (seen : Nat) (κ : Fr → O), ∃ f', Fr.rec (motive := fun _ => Nat → (Fr → O) → O) (fun _ κ => κ .nil) (fun t v _ ih => trimS t v ih) f seen κ = κ f' ∧ ∀ t, seen.testBit t = false → f'.get t = f.get t
  | .nil, seen, κ => ⟨.nil, rfl, fun _ _ => rfl⟩
  | .cons t v r, seen, κ => by
    show ∃ f', trimS t v (Fr.rec (motive := fun _ => Nat → (Fr → O) → O) (fun _ κ => κ .nil) (fun t v _ ih => trimS t v ih) r) seen κ = κ f' ∧ _
    unfold trimS
    rcases bit_cases seen t with ⟨e1, e2⟩ | ⟨e1, e2⟩
    · rw [e1]
      obtain ⟨f', h1, h2⟩ := trim_eq r (Nat.lor seen (Nat.shiftLeft 1 t)) (fun r => κ (.cons t v r))
      refine ⟨.cons t v f', h1, fun t' ht' => ?_⟩
      simp only [Fr.get]
      by_cases e : t = t'
      · simp [e]
      · rw [if_neg e, if_neg e]
        refine h2 t' ?_
        show (seen ||| 1 <<< t).testBit t' = false
        rw [Nat.testBit_or, ht', Nat.one_shiftLeft, Nat.testBit_two_pow]
        simp [e]
    · rw [e1]
      obtain ⟨f', h1, h2⟩ := trim_eq r seen κ
      refine ⟨f', h1, fun t' ht' => ?_⟩
      rw [h2 t' ht']
      simp only [Fr.get]
      rw [if_neg]
      intro e; subst e; rw [e2] at ht'; cases ht'
theorem trimK_eq (f : Fr) (κ : Fr → O) : ∃ f', trimK f κ = κ f' ∧ ∀ t, f'.get t = f.get t := by
  obtain ⟨f', h1, h2⟩ := trim_eq f 0 κ
  exact ⟨f', h1, fun t => h2 t (by simp)⟩
theorem FR.same {ι : Mp} {tmps : Array Value} {f' : Fr} (hf : FR ι (look m f g) tmps) (h : ∀ t, f'.get t = f.get t) : FR ι (look m f' .nil) tmps := by
  intro t v hv
  refine hf t v ?_
  unfold look at hv ⊢
  split at hv
  · rename_i e; rw [if_pos e, ← h]; exact hv
  · cases hv

noncomputable def loopN (e : K4) : Nat → K4 := Nat.rec (motive := fun _ => K4) (fun _ _ _ _ => .fail)
      (fun _ again f g h n => thenK (e f g h n) (fun f _ h n => trimK f (fun f => again f .nil h n)))
theorem code_loop {r : Bool} {c : Code} (ih : ∀ {m : Nat} {f g : Fr} {h : HT} {nx : Nat} {o : O}, o ≠ .fail → codeK c cf yf m f g h nx = o → CodeSpec r c m f g h nx o) (ho : o ≠ .fail) (hs : loopK (codeK c cf yf m) f g h nx = o) :
    CodeSpec r (.loop c) m f g h nx o := by
  have hs' : loopN (codeK c cf yf m) 100000 f g h nx = o := hs
  have step : ∀ (j : Nat) (f g : Fr) (h : HT) (nx : Nat), loopN (codeK c cf yf m) (j + 1) f g h nx = o →
      (∃ f1 g1 h1 n1 f2, CodeSpec r c m f g h nx (.nrm f1 g1 h1 n1) ∧ (∀ t, f2.get t = f1.get t) ∧ loopN (codeK c cf yf m) j f2 .nil h1 n1 = o) ∨ (CodeSpec r c m f g h nx o ∧ ∀ f g h n, o ≠ .nrm f g h n) := by
    intro j f g h nx hj
    have hj' : thenK (codeK c cf yf m f g h nx) (fun f _ h n => trimK f (fun f => loopN (codeK c cf yf m) j f .nil h n)) = o := hj
    rcases thenK_inv ho hj' with ⟨f1, g1, h1, n1, he, hk⟩ | ⟨he, hn⟩
    · left
      obtain ⟨f2, e1, e2⟩ := trimK_eq f1 (fun f => loopN (codeK c cf yf m) j f .nil h1 n1)
      exact ⟨f1, g1, h1, n1, f2, ih (by simp) he, e2, e1.symm.trans hk⟩
    · right
      exact ⟨ih ho he, by rw [← he]; exact hn⟩
  have mono : ∀ (j : Nat) (f g : Fr) (h : HT) (nx : Nat), loopN (codeK c cf yf m) j f g h nx = o → nx ≤ o.N := by
    intro j
    induction j with
    | zero => intro f g h nx hj; exact absurd hj.symm ho
    | succ j ihj =>
      intro f g h nx hj
      rcases step j f g h nx hj with ⟨f1, g1, h1, n1, f2, hsp, _, hk⟩ | ⟨hsp, _⟩
      · exact Nat.le_trans hsp.1 (ihj f2 .nil h1 n1 hk)
      · exact hsp.1
  refine ⟨mono _ _ _ _ _ hs', fun F hF hr B w0 ι w a Q S hhi hf hfit hm hQ => ?_⟩
  have hfit' : fits r a.tmps.size c = true := hfit
  refine wpIn_loop_ix (fun j a1 w1 => ∃ f g h nx ι1, loopN (codeK c cf yf m) j f g h nx = o ∧ Mp.up nx ι ι1 ∧ Sim B w0 ι1 h nx w1 ∧ FR ι1 (look m f g) a1.tmps ∧ a1.tmps.size = a.tmps.size ∧ Marks B.has a1.defers w1) 100000 ⟨f, g, h, nx, ι, hs', Mp.up.refl _ _, S, hf, rfl, hm⟩ ?_
  rintro j a1 w1 ⟨f, g, h, nx, ι1, hj, hup, S1, hf1, hsz, hm1⟩
  cases j with
  | zero => exact absurd hj.symm ho
  | succ j =>
    rcases step j f g h nx hj with ⟨f1, g1, h1, n1, f2, hsp, heq, hk⟩ | ⟨hsp, hn⟩
    · refine hsp.2 F hF hr B w0 ι1 w1 a1 _ S1 (Nat.le_trans (mono _ _ _ _ _ hk) hhi) hf1 (by rw [hsz]; exact hfit') hm1 fun ι2 a2 w2 k1 k2 k3 k4 k5 => ?_
      exact ⟨j, Nat.lt_succ_self _, f2, .nil, h1, n1, ι2, hk, hup.trans k1 hsp.1, k5, FR.same k2 heq, k3.trans hsz, k4⟩
    · refine hsp.2 F hF hr B w0 ι1 w1 a1 _ S1 hhi hf1 (by rw [hsz]; exact hfit') hm1 fun ι2 a2 w2 k1 k2 k3 k4 k5 => ?_
      have := hQ ι2 a2 w2 (hup.trans k1 hsp.1) k2 (k3.trans hsz) k4 k5
      cases o with
      | nrm f g h n => exact absurd rfl (hn f g h n)
      | _ => exact this
end Go.Ev.F
