/- Proved here: a step of the kernel's run is an operation as it is told, or a call. -/
import Derived.Test.YtnbhgeehlcjmdaaGreatV17
namespace Go.Ev.F
open Go Go.Ev

def OpRes (d : Option Tmp) (m : Nat) (K : K4) (f g : Fr) (h : HT) (o : O) (r : R3) : Prop :=
  ∃ q, r = some q ∧ K (putF d q.1 m f g).1 (putF d q.1 m f g).2 (upsH h q.2.1) q.2.2 = o
variable {d : Option Tmp} {m : Nat} {K : K4} {f g : Fr} {h : HT} {nx : Nat} {o : O} {cf yf : CF}
theorem r3K_inv {r : R3} (ho : o ≠ .fail) (hs : r3K d m K f g h r = o) : OpRes d m K f g h o r := by
  obtain ⟨q, h1, h2⟩ := optK_inv ho hs
  exact ⟨q, h1, by rw [← h2, upsK_eq, putK_eq]⟩
theorem putV_res {v : AV} (hs : putV d m K f g h nx v = o) : OpRes d m K f g h o (some (v, [], nx)) :=
  ⟨_, rfl, by rw [← hs, putV, putK_eq]; rfl⟩
theorem newK_res {z : AV} (hs : newK d m K f g h nx z = o) : OpRes d m K f g h o (some (.ptr nx 0, [(nx, some (.cells z.cells))], nx + 1)) :=
  ⟨_, rfl, by rw [← hs, newK, hsetK_eq, putK_eq, cellsOfV_eq]; rfl⟩
theorem ptrK_inv {a : AV} {κ : Nat → Nat → O} (ho : o ≠ .fail) (hs : ptrK a κ = o) : ∃ b off, a = .ptr b off ∧ κ b off = o := by
  cases a with
  | ptr b off => exact ⟨b, off, rfl, hs⟩
  | _ => exact absurd hs.symm ho
theorem slcK_inv {a : AV} {κ : Nat → Nat → Nat → O} (ho : o ≠ .fail) (hs : slcK a κ = o) : ∃ b off n c q, a = .sl b off n c q ∧ κ b off n = o := by
  cases a with
  | sl b off n c q => exact ⟨b, off, n, c, q, rfl, hs⟩
  | _ => exact absurd hs.symm ho
theorem natK_inv {a : AV} {κ : KN} (ho : o ≠ .fail) (hs : natK a κ = o) : ∃ n, natOf a = some n ∧ κ n = o := by
  cases a with
  | int k i =>
    cases i with
    | ofNat n => exact ⟨n, rfl, hs⟩
    | negSucc n => exact absurd hs.symm ho
  | _ => exact absurd hs.symm ho
theorem condK_inv {a : AV} {x y : O} (ho : o ≠ .fail) (hs : condK a x y = o) : ∃ b, a = .bool b ∧ (if b then x else y) = o := by
  cases a with
  | bool b => exact ⟨b, rfl, by cases b <;> exact hs⟩
  | _ => exact absurd hs.symm ho
theorem iteK_inv {b : Bool} {x y : O} (hs : iteK b x y = o) : (if b then x else y) = o := by cases b <;> exact hs
theorem loadB_inv {t : TypeId} {κ : KV} {cs : List AV} {off : Nat} (ho : o ≠ .fail) (hs : loadC t κ off cs = o) : ∃ v, partA P t cs off = some v ∧ κ v = o := by
  obtain ⟨b, h1, h2⟩ := optK_inv ho hs
  cases b with
  | true =>
    have h2' : optK (sizeT P t) (loadAgg κ cs off) = o := h2
    obtain ⟨n, h3, h4⟩ := optK_inv ho h2'
    cases n with
    | zero => exact absurd h4.symm ho
    | succ n =>
      have h4' : dropK cs off (fun l => takeK l (n + 1) (fun l => κ (.agg l))) = o := h4
      rw [dropK_eq] at h4'
      obtain ⟨h5, h6⟩ := takeK_inv ho h4'
      refine ⟨_, ?_, h6⟩
      unfold partA
      rw [h1, h3]
      have : off + (n + 1) ≤ cs.length := by simp at h5; omega
      simp only [cut, this, if_true]
  | false =>
    obtain ⟨v, h3, h4⟩ := nthK_inv (o := o) ho (l := cs) (κ := κ) (i := off) h2
    exact ⟨v, by unfold partA; rw [h1]; exact h3, h4⟩
theorem loadP_inv {t : TypeId} {κ : KV} {b off : Nat} (ho : o ≠ .fail) (hs : loadP t κ h b off = o) : ∃ v, loadA P h t b off = some v ∧ κ v = o := by
  obtain ⟨cs, h1, h2⟩ := cellsK_inv ho hs
  obtain ⟨v, h3, h4⟩ := loadB_inv ho h2
  exact ⟨v, by simp only [loadA, h1]; exact h3, h4⟩
theorem storeP_inv {t : TypeId} {v : AV} {κ : KH} {b off : Nat} (ho : o ≠ .fail) (hs : storeP t h v κ b off = o) : ∃ u, storeA P h t b off v = some u ∧ κ (upsH h u) = o := by
  obtain ⟨n, h1, h2⟩ := optK_inv ho hs
  rw [cellsOfV_eq, lenN_eq] at h2
  cases hb : Nat.beq v.cells.length n with
  | false => rw [hb] at h2; exact absurd h2.symm ho
  | true =>
    rw [hb] at h2
    have e := Nat.eq_of_beq_eq_true hb
    obtain ⟨cs, h3, h4⟩ := cellsK_inv ho h2
    obtain ⟨r, h5, h6⟩ := setK_inv ho h4
    rw [hsetK_eq] at h6
    exact ⟨[(b, some (.cells r))], by simp only [storeA, h3, h1, e, if_true, h5], h6⟩
theorem addPtr_eq (κ : KV) (b off : Nat) : addPtr κ b off = κ (.ptr b off) := forceN_eq _ _
theorem boundK_inv {κ : KV} {i n b off len : Nat} (ho : o ≠ .fail) (hs : boundK κ i n b off len = o) : i < len ∧ κ (.ptr b (off + i * n)) = o := by
  have h1 := iteK_inv hs
  cases hb : Nat.blt i len with
  | false => rw [hb] at h1; exact absurd h1.symm ho
  | true =>
    rw [hb] at h1
    rw [Nat.blt_eq] at hb
    exact ⟨hb, by rw [← h1]; exact (addPtr_eq _ _ _).symm⟩
theorem tupK_inv {a : AV} {i : Nat} {κ : KV} (ho : o ≠ .fail) (hs : tupK a i κ = o) : ∃ l v, a = .tup l ∧ l[i]? = some v ∧ κ v = o := by
  cases a with
  | tup l => obtain ⟨v, h1, h2⟩ := nthK_inv ho (l := l) (κ := κ) (i := i) hs; exact ⟨l, v, rfl, h1, h2⟩
  | _ => exact absurd hs.symm ho
theorem nilK_inv {x : AV} {ρ : Env} {y : Operand} {κ : KV} (ho : o ≠ .fail) (hx : ρ y = some x) (hs : nilK x κ = o) : oNil ρ y nx = some (x, [], nx) ∧ κ x = o := by
  cases x with
  | ptr b off => exact ⟨by simp only [oNil, hx], hs⟩
  | fn a b c => exact ⟨by simp only [oNil, hx], hs⟩
  | yld l => exact ⟨by simp only [oNil, hx], hs⟩
  | mp b => exact ⟨by simp only [oNil, hx], hs⟩
  | _ => exact absurd hs.symm ho
theorem notK_inv {a : AV} {κ : KV} (ho : o ≠ .fail) (hs : notK a κ = o) : ∃ v, unA .not a = some v ∧ κ v = o := by
  cases a with
  | bool b => exact ⟨_, rfl, by rw [← hs]; exact (boolK_eq _ _).symm⟩
  | _ => exact absurd hs.symm ho
theorem lenK_inv {a : AV} {s : O} {κ : KV} {ats : Array TypeId} (hT : isSlT P ats = true) (hs : lenK a s κ = o) : s = o ∨ ∃ v, lenOp P h ats a = some v ∧ κ v = o := by
  have hl : ∃ t e, ats[0]? = some t ∧ P.underlying t = some (.slice e) := by
    unfold isSlT at hT
    split at hT
    · rename_i t ht
      obtain ⟨e, he⟩ := Option.isSome_iff_exists.1 hT
      unfold elemT at he
      split at he
      · rename_i e' hd; exact ⟨t, e', ht, hd⟩
      · simp at he
    · simp at hT
  obtain ⟨t, e, h1, h2⟩ := hl
  cases a with
  | snil => exact .inr ⟨_, by unfold lenOp; simp only [h1, h2]; rfl, hs⟩
  | sl b off n c q => exact .inr ⟨_, by unfold lenOp; simp only [h1, h2]; rfl, hs⟩
  | _ => exact .inl hs

/-- a step -/
theorem stepT_inv {op : Op} (ho : o ≠ .fail) (hs : stepT op cf yf m K d f g h nx = o) :
    OpRes d m K f g h o (opS P (evalA m f g) op h nx) ∨
    (∃ c q args a, op = .call c ∧ c.callee = .value q ∧ argsA (evalA m f g) c.args.toList = some args ∧ evalA m f g q = some a ∧ calleeK a cf yf args h nx (kcall d m K f g) = o) := by
  have mv : ∀ x, evalK x m f g (putV d m K f g h nx) = o → OpRes d m K f g h o (oMove (evalA m f g) x nx) := fun x hx => by
    obtain ⟨v, h1, h2⟩ := evalK_inv ho hx
    simp only [oMove, h1]; exact putV_res h2
  cases op with
  | move x => exact .inl (mv x hs)
  | assign x => exact .inl (mv x hs)
  | pick c a b =>
    left
    obtain ⟨v, h1, h2⟩ := evalK_inv ho hs
    obtain ⟨t, rfl, h3⟩ := condK_inv ho h2
    show OpRes d m K f g h o (oPick (evalA m f g) c a b nx)
    cases t with
    | true => simp only [oPick, h1]; exact mv a h3
    | false => simp only [oPick, h1]; exact mv b h3
  | alloc t =>
    left
    have hs' : optK (zeroT P t) (newK d m K f g h nx) = o := hs
    obtain ⟨z, h1, h2⟩ := optK_inv ho hs'
    show OpRes d m K f g h o (oAlloc P t nx)
    simp only [oAlloc, h1]; exact newK_res h2
  | box t x =>
    left
    obtain ⟨z, h1, h2⟩ := evalK_inv ho hs
    show OpRes d m K f g h o (oBox (evalA m f g) x nx)
    simp only [oBox, h1]; exact newK_res h2
  | build t ps => exact .inl (r3K_inv ho hs)
  | buildSlice t len ps => exact .inl (r3K_inv ho hs)
  | insert t a k v => exact .inl (r3K_inv ho hs)
  | load t a =>
    left
    obtain ⟨v, h1, h2⟩ := evalK_inv ho hs
    obtain ⟨b, off, rfl, h3⟩ := ptrK_inv ho h2
    obtain ⟨u, h4, h5⟩ := loadP_inv ho h3
    show OpRes d m K f g h o (oLoad P (evalA m f g) t a h nx)
    simp only [oLoad, h1, h4]; exact putV_res h5
  | store t a x =>
    left
    obtain ⟨v, h1, h2⟩ := evalK_inv ho hs
    obtain ⟨w, h3, h4⟩ := evalK_inv ho h2
    obtain ⟨b, off, rfl, h5⟩ := ptrK_inv ho h4
    obtain ⟨u, h6, h7⟩ := storeP_inv ho h5
    rw [putK_eq] at h7
    show OpRes d m K f g h o (oStore P (evalA m f g) t a x h nx)
    simp only [oStore, h1, h3, h6]
    exact ⟨_, rfl, h7⟩
  | nilCheck x =>
    left
    obtain ⟨v, h1, h2⟩ := evalK_inv ho hs
    obtain ⟨h3, h4⟩ := nilK_inv (nx := nx) ho h1 h2
    show OpRes d m K f g h o (oNil (evalA m f g) x nx)
    rw [h3]; exact putV_res h4
  | binOp op t x y t' =>
    left
    obtain ⟨v, h1, h2⟩ := evalK_inv ho hs
    obtain ⟨w, h3, h4⟩ := evalK_inv ho h2
    obtain ⟨u, h5, h6⟩ := binX_inv ho h4
    show OpRes d m K f g h o (oBin P (evalA m f g) op t x y nx)
    simp only [oBin, h1, h3, h5]; exact putV_res h6
  | unOp op t x =>
    left
    cases op with
    | not =>
      obtain ⟨v, h1, h2⟩ := evalK_inv ho hs
      obtain ⟨u, h3, h4⟩ := notK_inv ho h2
      show OpRes d m K f g h o (oUn (evalA m f g) .not x nx)
      simp only [oUn, h1, h3]; exact putV_res h4
    | _ => exact r3K_inv ho hs
  | convert s t x => exact .inl (r3K_inv ho hs)
  | makeFunc fn a b => exact .inl (r3K_inv ho hs)
  | makeMap t r => exact .inl (r3K_inv ho hs)
  | makeSlice t l c => exact .inl (r3K_inv ho hs)
  | slice t x l hh mm => exact .inl (r3K_inv ho hs)
  | fieldAddr s x i =>
    left
    obtain ⟨v, h1, h2⟩ := evalK_inv ho hs
    obtain ⟨b, off, rfl, h3⟩ := ptrK_inv ho h2
    obtain ⟨q, h4, h5⟩ := optK_inv ho h3
    rw [addPtr_eq] at h5
    show OpRes d m K f g h o (oFieldAddr P (evalA m f g) s x i nx)
    simp only [oFieldAddr, h1, h4]; exact putV_res h5
  | field t x i => exact .inl (r3K_inv ho hs)
  | indexAddr t x ix =>
    left
    obtain ⟨v, h1, h2⟩ := evalK_inv ho hs
    obtain ⟨w, h3, h4⟩ := evalK_inv ho h2
    obtain ⟨i, h5, h6⟩ := natK_inv ho h4
    obtain ⟨q, h7, h8⟩ := optK_inv ho h6
    obtain ⟨q, n⟩ := q
    show OpRes d m K f g h o (oIndexAddr P (evalA m f g) t x ix nx)
    cases q with
    | none =>
      obtain ⟨b, off, len, c, e, rfl, h9⟩ := slcK_inv ho h8
      obtain ⟨h10, h11⟩ := boundK_inv ho h9
      simp only [oIndexAddr, h1, h3, h5, h7, h10, if_true]; exact putV_res h11
    | some len =>
      obtain ⟨b, off, rfl, h9⟩ := ptrK_inv ho h8
      obtain ⟨h10, h11⟩ := boundK_inv ho h9
      simp only [oIndexAddr, h1, h3, h5, h7, h10, if_true]; exact putV_res h11
  | index t x ix => exact .inl (r3K_inv ho hs)
  | lookup t x ix ok => exact .inl (r3K_inv ho hs)
  | mapUpdate t a k v => exact .inl (r3K_inv ho hs)
  | mapEntry t a k => exact .inl (r3K_inv ho hs)
  | entryStore t a s v => exact .inl (r3K_inv ho hs)
  | extract t i =>
    left
    obtain ⟨v, h1, h2⟩ := evalK_inv ho hs
    obtain ⟨l, u, rfl, h3, h4⟩ := tupK_inv ho h2
    show OpRes d m K f g h o (oExtract (evalA m f g) t i nx)
    simp only [oExtract, h1, h3]; exact putV_res h4
  | call c =>
    have hs' : cTable c.callee c cf yf m K d f g h nx = o := hs
    cases hc : c.callee with
    | value q =>
      rw [hc] at hs'
      right
      obtain ⟨args, h1, h2⟩ := argsK_inv (κ := fun args => evalK q m f g (fun q => calleeK q cf yf args h nx (kcall d m K f g))) ho hs'
      obtain ⟨a, h3, h4⟩ := evalK_inv ho h2
      exact ⟨c, q, args, a, rfl, hc, h1, h3, h4⟩
    | invoke r n => rw [hc] at hs'; exact absurd hs'.symm ho
    | builtin b =>
      rw [hc] at hs'
      left
      have e : opS P (evalA m f g) (.call c) h nx = oBuiltin P (evalA m f g) b c.args c.argTypes h nx := by simp only [opS, hc]
      rw [e]
      cases b with
      | len =>
        have hs2 : cLen c cf yf m K d f g h nx = o := hs'
        unfold cLen at hs2
        cases hl : c.args.toList with
        | nil => rw [hl] at hs2; exact absurd hs2.symm ho
        | cons x r =>
          rw [hl] at hs2
          cases r with
          | cons y s => exact absurd hs2.symm ho
          | nil =>
            have hs3 : cLen1 c m K d f g h nx x = o := hs2
            unfold cLen1 at hs3
            obtain ⟨v, h1, h2⟩ := evalK_inv ho hs3
            have h3 := iteK_inv h2
            cases hT : isSlT P c.argTypes with
            | false => rw [hT] at h3; exact r3K_inv ho h3
            | true =>
              rw [hT] at h3
              rcases lenK_inv (h := h) hT h3 with h4 | ⟨u, h4, h5⟩
              · exact r3K_inv ho h4
              · have : oBuiltin P (evalA m f g) .len c.args c.argTypes h nx = some (u, [], nx) := by
                  simp only [oBuiltin, hl, argsA, h1, bLen, h4]
                rw [this]; exact putV_res h5
      | append => exact r3K_inv ho hs'
      | cap => exact r3K_inv ho hs'
      | clear => exact r3K_inv ho hs'
      | copy => exact r3K_inv ho hs'
      | max => exact r3K_inv ho hs'
      | min => exact r3K_inv ho hs'
      | _ => exact absurd hs'.symm ho
  | _ => exact absurd hs.symm ho
end Go.Ev.F
