/- One box of two: what comes of it, in plain Lean. -/
import Derived.Test.YtnbhgeehlcjmdaaGreatD15
namespace Go.Proofs.YtnbhgeehlcjmdaaGreat
open Go.RowKit

def mixAt (p q : Prt) : Except Nat (Nat × List Nat) :=
  if p.whole = true ∧ q.whole = true ∧ sameB p.data q.data = false then .error 15
  else if p.whole = true then .ok (p.kind, p.data) else if q.whole = true then .ok (q.kind, q.data) else .error 16
def mixTo (ps qs : List Prt) : Nat → Except Nat (List (Nat × List Nat))
  | 0 => .ok []
  | k + 1 => match mixTo ps qs k with
    | .error e => .error e
    | .ok l => match mixAt (ps.getD k default) (qs.getD k default) with
      | .error e => .error e
      | .ok c => .ok (l ++ [c])
def kindsTo (ps qs : List Prt) : Nat → Bool
  | 0 => true
  | k + 1 => kindsTo ps qs k && decide ((ps.getD k default).kind = (qs.getD k default).kind)
def mendL (a b : Option (List Prt)) : Except Nat (List (Nat × List Nat)) :=
  match a, b with
  | some ps, some qs => if ps.length = qs.length ∧ kindsTo ps qs ps.length = true then mixTo ps qs ps.length else .error 3
  | _, _ => .error 3
theorem kindsTo_false {ps qs : List Prt} {k : Nat} (h : kindsTo ps qs k = false) : ∀ n, k ≤ n → kindsTo ps qs n = false := by
  intro n hn
  induction n with
  | zero => have h0 : k = 0 := (by omega); subst h0; exact h
  | succ n ih =>
    by_cases e : k = n + 1
    · subst e; exact h
    · rw [kindsTo, ih (by omega)]; rfl
theorem mixTo_error {ps qs : List Prt} {k e : Nat} (h : mixTo ps qs k = .error e) : ∀ n, k ≤ n → mixTo ps qs n = .error e := by
  intro n hn
  induction n with
  | zero => have h0 : k = 0 := (by omega); subst h0; exact h
  | succ n ih =>
    by_cases e : k = n + 1
    · subst e; exact h
    · rw [mixTo, ih (by omega)]
theorem mixTo_next {ps qs : List Prt} {k : Nat} {l : List (Nat × List Nat)} {c : Nat × List Nat} (h : mixTo ps qs k = .ok l) (hc : mixAt (ps.getD k default) (qs.getD k default) = .ok c) : mixTo ps qs (k + 1) = .ok (l ++ [c]) := by
  rw [mixTo, h]
  simp only [hc]
theorem mixTo_stop {ps qs : List Prt} {k e : Nat} {l : List (Nat × List Nat)} (h : mixTo ps qs k = .ok l) (hc : mixAt (ps.getD k default) (qs.getD k default) = .error e) : mixTo ps qs (k + 1) = .error e := by
  rw [mixTo, h]
  simp only [hc]
theorem mixTo_len {ps qs : List Prt} : ∀ {k : Nat} {l : List (Nat × List Nat)}, mixTo ps qs k = .ok l → l.length = k
  | 0, l, h => by injection h with h; subst h; rfl
  | k + 1, l, h => by
    rw [mixTo] at h
    cases h1 : mixTo ps qs k with
    | error e => rw [h1] at h; cases h
    | ok l' =>
      rw [h1] at h
      simp only at h
      cases h2 : mixAt (ps.getD k default) (qs.getD k default) with
      | error e => rw [h2] at h; cases h
      | ok c =>
        rw [h2] at h
        injection h with h
        subst h
        have := mixTo_len h1
        simp [this]
/-- what holds of the chunks of both boxes holds of those that are taken -/
theorem mixTo_all {ps qs : List Prt} {R : Nat × List Nat → Prop} (hd : R default) : ∀ {k : Nat} {l : List (Nat × List Nat)}, mixTo ps qs k = .ok l →
    (∀ i, i < k → R ((ps.getD i default).kind, (ps.getD i default).data)) → (∀ i, i < k → R ((qs.getD i default).kind, (qs.getD i default).data)) → ∀ i, R (l.getD i default)
  | 0, l, h, _, _ => by injection h with h; subst h; intro i; simpa using hd
  | k + 1, l, h, hp, hq => by
    rw [mixTo] at h
    cases h1 : mixTo ps qs k with
    | error e => rw [h1] at h; cases h
    | ok l' =>
      rw [h1] at h
      simp only at h
      cases h2 : mixAt (ps.getD k default) (qs.getD k default) with
      | error e => rw [h2] at h; cases h
      | ok c =>
        rw [h2] at h
        injection h with h
        subst h
        have ih := mixTo_all hd h1 (fun i hi => hp i (by omega)) (fun i hi => hq i (by omega))
        have hl := mixTo_len h1
        have hc : R c := by
          unfold mixAt at h2
          split at h2
          · cases h2
          · split at h2
            · injection h2 with h2; subst h2; exact hp k (by omega)
            · split at h2
              · injection h2 with h2; subst h2; exact hq k (by omega)
              · cases h2
        intro i
        by_cases hi : i < l'.length
        · have := ih i
          simpa [List.getD, hi, List.getElem?_append_left hi] using this
        · by_cases hi2 : i = l'.length
          · subst hi2; simpa [List.getD] using hc
          · have : (l' ++ [c])[i]? = none := List.getElem?_eq_none (by simp; omega)
            simpa [List.getD, this] using hd
theorem partsL_at (xs t : List Nat) (a : Int) : ∀ (k i : Nat), i < k → (partsL xs t a k).getD i default = partOf xs t a i
  | k + 1, i, h => by
    rw [partsL]
    by_cases hi : i < k
    · have := partsL_at xs t a k i hi
      have hl : i < (partsL xs t a k).length := by rw [partsL_len]; exact hi
      simpa [List.getD, List.getElem?_append_left hl] using this
    · obtain rfl : i = k := by omega
      have hl := partsL_len xs t a i
      simp [List.getD, hl]
theorem partOf_len (xs t : List Nat) (a : Int) (i : Nat) : (partOf xs t a i).data.length ≤ xs.length := by
  unfold partOf
  split
  · simp; omega
  · simp
theorem headN_len {xs t : List Nat} {a : Int} (h : firstL xs = some (t, a) ∨ secondL xs = some (t, a)) : t.length ≤ xs.length := by
  rcases h with h | h
  · unfold firstL at h
    split at h
    · injection h with h
      injection h with h3 h4
      subst h3
      simp; omega
    · cases h
  · unfold secondL at h
    split at h
    · injection h with h
      injection h with h3 h4
      subst h3
      simp; omega
    · cases h
theorem openL_small {xs : List Nat} {ps : List Prt} (h : openL xs = some ps) (hx : xs.length ≤ 1000) : ps.length ≤ 1000 ∧ ∀ i, i < ps.length → (ps.getD i default).data.length ≤ 1000 := by
  have key : ∀ t a, (firstL xs = some (t, a) ∨ secondL xs = some (t, a)) → ps = partsL xs t a (nRows t) → ps.length ≤ 1000 ∧ ∀ i, i < ps.length → (ps.getD i default).data.length ≤ 1000 := by
    rintro t a hh rfl
    have h1 := headN_len hh
    rw [partsL_len]
    refine ⟨by unfold nRows; omega, fun i hi => ?_⟩
    rw [partsL_at _ _ _ _ _ hi]
    have := partOf_len xs t a i
    omega
  unfold openL at h
  cases hf : firstL xs with
  | some ta => obtain ⟨t, a⟩ := ta; rw [hf] at h; injection h with h; exact key t a (.inl hf) h.symm
  | none =>
    rw [hf] at h
    cases hs : secondL xs with
    | some ta => obtain ⟨t, a⟩ := ta; rw [hs] at h; injection h with h; exact key t a (.inr hs) h.symm
    | none => rw [hs] at h; cases h
theorem Prs.chunk {w : World} {A : Option Addr} {ps : List Prt} (h : Prs w A ps) (i : Nat) (hi : i < ps.length) : (ps.getD i default).kind < 256 ∧ ∀ x ∈ (ps.getD i default).data, x < 256 := by
  obtain ⟨b, off, _, hc⟩ := h (by omega)
  obtain ⟨_, h2, ⟨P, c, _, h4, _⟩, _⟩ := hc i hi
  exact ⟨h2, h4.1⟩
theorem mix_mild {ps qs : List Prt} {n : Nat} {l : List (Nat × List Nat)} (hl : mixTo ps qs n = .ok l) (hn : n ≤ 1000) (hp : ∀ i, i < n → (ps.getD i default).kind < 256 ∧ (ps.getD i default).data.length ≤ 1000 ∧ ∀ x ∈ (ps.getD i default).data, x < 256)
    (hq : ∀ i, i < n → (qs.getD i default).kind < 256 ∧ (qs.getD i default).data.length ≤ 1000 ∧ ∀ x ∈ (qs.getD i default).data, x < 256) : Mild l :=
  ⟨by rw [mixTo_len hl]; exact hn, fun i _ => mixTo_all (R := fun c => c.1 < 256 ∧ c.2.length ≤ 1000 ∧ ∀ x ∈ c.2, x < 256) ⟨by decide, by decide, by simp [default]⟩ hl hp hq i⟩
end Go.Proofs.YtnbhgeehlcjmdaaGreat
/-! One box of two: walk of damage.Mend. -/
namespace Go.Proofs.YtnbhgeehlcjmdaaGreat
open Go.RowKit

def MendPost (r : Except Nat (List (Nat × List Nat))) (w : World) (e : Ending) (w' : World) : Prop :=
  Below w.heap.size w w' ∧ match r with
  | .error k => e = .returned (.tuple #[.slice none 0 0, .int .i64 (k : Int)])
  | .ok cs => ∃ v, e = .returned (.tuple #[v, .int .i64 0]) ∧ ownD w' w.heap.size v (packL cs)
theorem open_any {o : Option (List Prt)} {w w' : World} {e : Ending} (h : OpenPost o w e w') : ∃ A m c f, e = .returned (.tuple #[.slice A (m : Nat) c, .int .i64 f]) ∧ Below w.heap.size w w' := by
  obtain ⟨hb, h⟩ := h
  cases o with
  | none => exact ⟨_, _, _, _, h, hb⟩
  | some ps =>
    obtain ⟨A, c, h, _⟩ := h
    exact ⟨_, _, _, _, h, hb⟩
theorem mendL_none1 {b : Option (List Prt)} : mendL none b = .error 3 := by unfold mendL; rfl
theorem mendL_none2 {a : Option (List Prt)} : mendL a none = .error 3 := by unfold mendL; cases a <;> rfl
theorem mendL_len {ps qs : List Prt} (h : ps.length ≠ qs.length) : mendL (some ps) (some qs) = .error 3 := by
  unfold mendL
  simp only
  rw [if_neg (fun hc => h hc.1)]
set_option maxRecDepth 100000 in
set_option maxHeartbeats 4000000 in
theorem mend_none1 (A B : Option Addr) (n c m d : Nat) (xs ys : List Nat) (w : World) (hA : Byt w A xs) (hn : xs.length = n) (hc : n ≤ c) (hB : Byt w B ys) (hm : ys.length = m) (hd : m ≤ d) (hnu : n ≤ 1000) (hmu : m ≤ 1000) (h : openL xs = none) :
    Calls Tryz.prog 7 #[.slice A n c, .slice B m d] w (MendPost (.error 3) w) := by
  have H1 := Lib.hid (open_n A c n xs w hA hn hc (by omega))
  have H2 := Lib.hid (fun W (hW : Below w.heap.size w W) => open_n B d m ys W (hB.below hW) hm hd (by omega))
  rw [h] at H1
  clear hA hB hn hm h
  go_enter Tryz.func7, Tryz.ntmps7
  go_wp2_with fail
  refine (H1.out).mono ?_
  rintro e w1 ⟨hb1, rfl⟩
  have HB1 := Lib.hid hb1
  clear hb1
  go_wp2_with fail
  refine (H2.out _ HB1.out).mono ?_
  intro e w2 hp2
  obtain ⟨A2, m2, c2, f2, rfl, hb2⟩ := open_any hp2
  have HB2 := Lib.hid (below_then HB1.out hb2)
  clear hb2 hp2
  go_wp2
  go_ret2
  exact ⟨HB2.out, rfl⟩
set_option maxRecDepth 100000 in
set_option maxHeartbeats 4000000 in
theorem mend_none2 (A B : Option Addr) (n c m d : Nat) (xs ys : List Nat) (ps : List Prt) (w : World) (hA : Byt w A xs) (hn : xs.length = n) (hc : n ≤ c) (hB : Byt w B ys) (hm : ys.length = m) (hd : m ≤ d) (hnu : n ≤ 1000) (hmu : m ≤ 1000) (h1 : openL xs = some ps) (h : openL ys = none) :
    Calls Tryz.prog 7 #[.slice A n c, .slice B m d] w (MendPost (.error 3) w) := by
  have H1 := Lib.hid (open_n A c n xs w hA hn hc (by omega))
  have H2 := Lib.hid (fun W (hW : Below w.heap.size w W) => open_n B d m ys W (hB.below hW) hm hd (by omega))
  rw [h1] at H1
  rw [h] at H2
  clear hA hB hn hm h h1
  go_enter Tryz.func7, Tryz.ntmps7
  go_wp2_with fail
  refine (H1.out).mono ?_
  rintro e w1 ⟨hb1, A1, c1, rfl, _⟩
  have HB1 := Lib.hid hb1
  clear hb1
  go_wp2_with fail
  refine (H2.out _ HB1.out).mono ?_
  rintro e w2 ⟨hb2, rfl⟩
  have HB2 := Lib.hid (below_then HB1.out hb2)
  clear hb2
  go_wp2
  go_ret2
  exact ⟨HB2.out, rfl⟩
set_option maxRecDepth 100000 in
set_option maxHeartbeats 4000000 in
theorem mend_len (A B : Option Addr) (n c m d : Nat) (xs ys : List Nat) (ps qs : List Prt) (w : World) (hA : Byt w A xs) (hn : xs.length = n) (hc : n ≤ c) (hB : Byt w B ys) (hm : ys.length = m) (hd : m ≤ d) (hnu : n ≤ 1000) (hmu : m ≤ 1000) (h1 : openL xs = some ps) (h2 : openL ys = some qs)
    (h : ps.length ≠ qs.length) : Calls Tryz.prog 7 #[.slice A n c, .slice B m d] w (MendPost (.error 3) w) := by
  have H1 := Lib.hid (open_n A c n xs w hA hn hc (by omega))
  have H2 := Lib.hid (fun W (hW : Below w.heap.size w W) => open_n B d m ys W (hB.below hW) hm hd (by omega))
  rw [h1] at H1
  rw [h2] at H2
  have hne : ((ps.length : Int) != (qs.length : Int)) = true := by simp; omega
  clear hA hB hn hm h2 h1
  go_enter Tryz.func7, Tryz.ntmps7
  go_wp2_with fail
  refine (H1.out).mono ?_
  rintro e w1 ⟨hb1, A1, c1, rfl, _⟩
  have HB1 := Lib.hid hb1
  clear hb1
  go_wp2_with fail
  refine (H2.out _ HB1.out).mono ?_
  rintro e w2 ⟨hb2, A2, c2, rfl, _⟩
  have HB2 := Lib.hid (below_then HB1.out hb2)
  clear hb2
  go_wp2
  go_ret2
  exact ⟨HB2.out, rfl⟩
end Go.Proofs.YtnbhgeehlcjmdaaGreat
