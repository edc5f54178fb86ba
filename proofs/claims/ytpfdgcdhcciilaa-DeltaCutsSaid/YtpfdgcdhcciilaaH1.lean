/- Changes' bytes and what they are read as: plain laws. -/
import Derived.Test.YtpfdgcdhcciilaaH0
namespace Go.Proofs.Ytpfdgcdhcciilaa
open Go.RowKit

/-- what a list of changes must be so that its bytes say it -/
def Good (cs : List Chg) : Prop := ∀ c ∈ cs, 0 ≤ c.bay ∧ c.bay < 256 ∧ c.old < 4294967296 ∧ c.data.length < 4294967296
theorem num4_len (n : Nat) : (num4 n).length = 4 := rfl
theorem num2_len (n : Nat) : (num2 n).length = 2 := rfl
theorem chgB_len (c : Chg) : (chgB c).length = 9 + c.data.length := by simp [chgB, num4]; omega
theorem lenAt_chg {c : Chg} (t : List Nat) (h : c.data.length < 4294967296) : lenAt (chgB c ++ t) = c.data.length := by
  unfold lenAt
  have : ((chgB c ++ t).drop 5).take 4 = num4 c.data.length := by simp [chgB, num4]
  rw [this, val_num4 _ h]
theorem oldAt_chg {c : Chg} (t : List Nat) (h : c.old < 4294967296) : oldAt (chgB c ++ t) = c.old := by
  unfold oldAt
  have : ((chgB c ++ t).drop 1).take 4 = num4 c.old := by simp [chgB, num4]
  rw [this, val_num4 _ h]
theorem chgB_cut (c : Chg) (t : List Nat) : (chgB c ++ t).drop (9 + c.data.length) = t := by
  rw [← chgB_len, List.drop_left]
theorem chgAt_chg {c : Chg} (t : List Nat) (h : 0 ≤ c.bay) (h1 : c.old < 4294967296) (h2 : c.data.length < 4294967296) : chgAt (chgB c ++ t) = c := by
  unfold chgAt
  rw [lenAt_chg t h2, oldAt_chg t h1]
  have e : ((chgB c ++ t).drop 9).take c.data.length = c.data := by simp [chgB, num4]
  rw [e]
  obtain ⟨bay, old, data⟩ := c
  have : (((chgB ⟨bay, old, data⟩ ++ t).getD 0 0 : Nat) : Int) = bay := by
    simp only [chgB, List.cons_append, List.getD_cons_zero]
    simp at h
    omega
  rw [this]
theorem parse_all (cs : List Chg) (t : List Nat) (h : Good cs) : parse cs.length (cs.flatMap chgB ++ t) = some (cs, t) := by
  induction cs with
  | nil => simp [parse]
  | cons c cs ih =>
    obtain ⟨h0, _, h1, h2⟩ := h c (by simp)
    have e : (c :: cs).flatMap chgB ++ t = chgB c ++ (cs.flatMap chgB ++ t) := by simp
    have hl := lenAt_chg (cs.flatMap chgB ++ t) h2
    rw [e, List.length_cons, parse_yes, hl, chgB_cut, ih (fun d hd => h d (by simp [hd])), chgAt_chg _ h0 h1 h2]
    · rfl
    · rw [hl, List.length_append, chgB_len]; omega
theorem count_enc (cs : List Chg) (t : List Nat) (h : cs.length < 65536) : countOf (num2 cs.length ++ t) = cs.length := by
  unfold countOf
  have : (num2 cs.length ++ t).take 2 = num2 cs.length := by simp [num2]
  rw [this, val_num2 _ h]
theorem drop2 (n : Nat) (t : List Nat) : (num2 n ++ t).drop 2 = t := by simp [num2]
theorem sumOf_lt (l : List Nat) : sumOf l < 4294967296 := by unfold sumOf; omega
/-- the bytes are read as the changes -/
theorem dec_enc (cs : List Chg) (hg : Good cs) (hl : cs.length < 65536) (hr : rightC cs = true) : dec (enc cs) = (cs, 0) := by
  have e : enc cs = num2 cs.length ++ (cs.flatMap chgB ++ num4 (sumOf (body cs))) := by simp [enc, body]
  have hp : parse (countOf (enc cs)) ((enc cs).drop 2) = some (cs, (enc cs).drop (body cs).length) := by
    rw [e, count_enc _ _ hl, drop2, parse_all _ _ hg, ← e]
    simp [enc]
  rw [dec_some (by rw [e]; simp [num2]) (by simp [enc]) hp]
  have hlen : (enc cs).length = (body cs).length + 4 := by simp [enc, num4]
  have ed : (enc cs).drop (body cs).length = num4 (sumOf (body cs)) := by simp [enc]
  have et : (enc cs).take (body cs).length = body cs := by simp [enc]
  rw [if_neg (by omega), if_neg (by omega), ed, et, val_num4 _ (sumOf_lt _), if_neg (by simp), hr, if_pos rfl]

/-- cut anywhere, the bytes come to an early end -/
theorem parse_cut (cs : List Chg) (s : List Nat) (hs : s.length = 4) (hg : Good cs) : ∀ j, j < (cs.flatMap chgB ++ s).length → parse cs.length ((cs.flatMap chgB ++ s).take j) = none ∨ ∃ r, r.length < 4 ∧ parse cs.length ((cs.flatMap chgB ++ s).take j) = some (cs, r) := by
  induction cs with
  | nil =>
    intro j hj
    right
    refine ⟨s.take j, ?_, by simp [parse]⟩
    simp at hj ⊢
    omega
  | cons c cs ih =>
    intro j hj
    obtain ⟨h0, _, h1, h2⟩ := hg c (by simp)
    have e : (c :: cs).flatMap chgB ++ s = chgB c ++ (cs.flatMap chgB ++ s) := by simp
    rw [e] at hj ⊢
    have hjl : ((chgB c ++ (cs.flatMap chgB ++ s)).take j).length = j := by rw [List.length_take]; omega
    by_cases h9 : j < 9
    · left
      exact parse_no (by rw [hjl]; exact .inl h9)
    · have hlen : lenAt ((chgB c ++ (cs.flatMap chgB ++ s)).take j) = c.data.length := by
        rw [← lenAt_chg (cs.flatMap chgB ++ s) h2]
        unfold lenAt
        rw [List.drop_take, List.take_take, Nat.min_eq_left (by omega)]
      by_cases hd : j < 9 + c.data.length
      · left
        exact parse_no (by rw [hjl, hlen]; exact .inr hd)
      · have hdrop : ((chgB c ++ (cs.flatMap chgB ++ s)).take j).drop (9 + c.data.length) = (cs.flatMap chgB ++ s).take (j - (9 + c.data.length)) := by
          rw [List.drop_take, chgB_cut]
        have hch : chgAt ((chgB c ++ (cs.flatMap chgB ++ s)).take j) = c := by
          refine Eq.trans ?_ (chgAt_chg (cs.flatMap chgB ++ s) h0 h1 h2)
          unfold chgAt
          rw [hlen, lenAt_chg _ h2]
          unfold oldAt
          rw [List.drop_take, List.take_take, Nat.min_eq_left (by omega), List.drop_take, List.take_take, Nat.min_eq_left (by omega)]
          have : ((chgB c ++ (cs.flatMap chgB ++ s)).take j).getD 0 0 = (chgB c ++ (cs.flatMap chgB ++ s)).getD 0 0 := by
            simp [List.getD, show 0 < j by omega]
          rw [this]
        have hstep : parse (c :: cs).length ((chgB c ++ (cs.flatMap chgB ++ s)).take j) = pre [c] (parse cs.length ((cs.flatMap chgB ++ s).take (j - (9 + c.data.length)))) := by
          rw [List.length_cons, parse_yes (by rw [hjl, hlen]; omega), hlen, hdrop, hch]
        rw [hstep]
        rcases ih (fun d hd => hg d (by simp [hd])) (j - (9 + c.data.length)) (by rw [List.length_append, chgB_len] at hj; omega) with h | ⟨r, hr, h⟩
        · left; rw [h]; rfl
        · right; exact ⟨r, hr, by rw [h]; rfl⟩
theorem dec_cut (cs : List Chg) (hg : Good cs) (hl : cs.length < 65536) (k : Nat) (hk : k < (enc cs).length) : dec ((enc cs).take k) = ([], 4) := by
  have e : enc cs = num2 cs.length ++ (cs.flatMap chgB ++ num4 (sumOf (body cs))) := by simp [enc, body]
  by_cases h2 : k < 2
  · exact dec_short (by rw [List.length_take]; omega)
  · have hkl : ((enc cs).take k).length = k := by rw [List.length_take]; omega
    have hc : countOf ((enc cs).take k) = cs.length := by
      unfold countOf
      rw [List.take_take, Nat.min_eq_left (by omega)]
      have := count_enc cs (cs.flatMap chgB ++ num4 (sumOf (body cs))) hl
      rw [← e] at this
      exact this
    have hd : ((enc cs).take k).drop 2 = (cs.flatMap chgB ++ num4 (sumOf (body cs))).take (k - 2) := by
      rw [List.drop_take]
      conv => lhs; rw [e]
      rw [drop2]
    have hjl : k - 2 < (cs.flatMap chgB ++ num4 (sumOf (body cs))).length := by
      have := congrArg List.length e
      rw [List.length_append, num2_len] at this
      omega
    unfold dec
    rw [if_neg (by omega), hc, hd]
    rcases parse_cut cs (num4 (sumOf (body cs))) rfl hg (k - 2) hjl with h | ⟨r, hr, h⟩
    · rw [h]; rfl
    · rw [h]
      simp only [decWith]
      rw [if_pos hr]
theorem dec_more (cs : List Chg) (hg : Good cs) (hl : cs.length < 65536) (x : Nat) : dec (enc cs ++ [x]) = ([], 5) := by
  have e : enc cs ++ [x] = num2 cs.length ++ (cs.flatMap chgB ++ (num4 (sumOf (body cs)) ++ [x])) := by simp [enc, body]
  have hp : parse (countOf (enc cs ++ [x])) ((enc cs ++ [x]).drop 2) = some (cs, (enc cs ++ [x]).drop (body cs).length) := by
    rw [e, count_enc _ _ hl, drop2, parse_all _ _ hg, ← e]
    simp [enc]
  have hlen : (enc cs ++ [x]).length = (body cs).length + 5 := by simp [enc, num4]
  rw [dec_some (by omega) (by omega) hp, if_neg (by omega), if_pos (by omega)]

/-- whatever is read without fault bears its own sum -/
theorem dec_sum {xs : List Nat} (h : (dec xs).2 = 0) : 4 ≤ xs.length ∧ valOf (xs.drop (xs.length - 4)) = sumOf (xs.take (xs.length - 4)) := by
  unfold dec at h
  split at h
  · simp at h
  · generalize hp : parse (countOf xs) (xs.drop 2) = o at h
    rcases o with _ | ⟨l, r⟩
    · simp [decWith] at h
    · simp only [decWith] at h
      split at h
      · simp at h
      · split at h
        · simp at h
        · split at h
          · simp at h
          · rename_i h4 h5 hs
            have hr4 : r.length = 4 := by omega
            have suf : ∀ n ys l' r', parse n ys = some (l', r') → r'.length ≤ ys.length ∧ r' = ys.drop (ys.length - r'.length) := by
              intro n
              induction n with
              | zero =>
                intro ys l' r' h
                simp [parse] at h
                obtain ⟨_, rfl⟩ := h
                simp
              | succ n ih =>
                intro ys l' r' h
                unfold parse at h
                split at h
                · cases h
                · rename_i hn
                  simp only [Option.map_eq_some_iff] at h
                  obtain ⟨⟨l2, r2⟩, h2, h3⟩ := h
                  simp at h3
                  obtain ⟨_, rfl⟩ := h3
                  obtain ⟨g1, g2⟩ := ih _ _ _ h2
                  rw [List.length_drop] at g1
                  refine ⟨by omega, ?_⟩
                  rw [g2, List.length_drop, List.drop_drop]
                  congr 1
                  rw [List.length_drop]
                  omega
            obtain ⟨g1, g2⟩ := suf _ _ _ _ hp
            rw [List.length_drop] at g1 g2
            have hr : r = xs.drop (xs.length - 4) := by
              rw [g2, hr4, List.drop_drop]
              congr 1
              omega
            refine ⟨by omega, ?_⟩
            have hs2 := Decidable.not_not.1 hs
            rw [hr4] at hs2
            rw [← hr, hs2]
theorem updAll_inj (l : List Nat) : ∀ a b, a < 4294967296 → b < 4294967296 → (∀ c ∈ l, c < 256) → updAll a l = updAll b l → a = b := by
  induction l with
  | nil => intro a b _ _ _ h; exact h
  | cons c l ih =>
    intro a b ha hb hc h
    have hc0 := hc c (by simp)
    have h1 := ih _ _ (upd_lt a c ha hc0) (upd_lt b c hb hc0) (fun d hd => hc d (by simp [hd])) h
    have h2 := stN_inj 8 _ _ (Nat.xor_lt_two_pow (n := 32) (by omega) (by omega)) (Nat.xor_lt_two_pow (n := 32) (by omega) (by omega)) h1
    have h3 := congrArg (· ^^^ c) h2
    simpa [Nat.xor_assoc] using h3
theorem sum_other (a c : List Nat) (x y : Nat) (hx : x < 256) (hy : y < 256) (ha : ∀ d ∈ a, d < 256) (hc : ∀ d ∈ c, d < 256) (h : sumOf (a ++ x :: c) = sumOf (a ++ y :: c)) : x = y := by
  have s0 := updAll_lt a 4294967295 (by omega) ha
  have hx' : ∀ d ∈ a ++ x :: c, d < 256 := by intro d hd; simp at hd; exact hd.elim (ha d) (fun h => h.elim (fun e => e ▸ hx) (hc d))
  have hy' : ∀ d ∈ a ++ y :: c, d < 256 := by intro d hd; simp at hd; exact hd.elim (ha d) (fun h => h.elim (fun e => e ▸ hy) (hc d))
  have l1 := updAll_lt _ 4294967295 (by omega) hx'
  have l2 := updAll_lt _ 4294967295 (by omega) hy'
  have e : updAll 4294967295 (a ++ x :: c) = updAll 4294967295 (a ++ y :: c) := by unfold sumOf at h; omega
  rw [updAll_append, updAll_append, updAll_cons, updAll_cons] at e
  have h1 := updAll_inj c _ _ (upd_lt _ x s0 hx) (upd_lt _ y s0 hy) hc e
  have h2 := stN_inj 8 _ _ (Nat.xor_lt_two_pow (n := 32) (by omega) (by omega)) (Nat.xor_lt_two_pow (n := 32) (by omega) (by omega)) h1
  have h3 := congrArg (updAll 4294967295 a ^^^ ·) h2
  simpa [← Nat.xor_assoc] using h3
theorem val_inj (a b : List Nat) (hl : a.length = b.length) (ha : ∀ d ∈ a, d < 256) (hb : ∀ d ∈ b, d < 256) (h : valOf a = valOf b) : a = b := by
  have key : ∀ n (a b : List Nat), a.length = n → b.length = n → (∀ d ∈ a, d < 256) → (∀ d ∈ b, d < 256) → valOf a = valOf b → a = b := by
    intro n
    induction n with
    | zero => intro a b h1 h2 _ _ _; rw [List.eq_nil_of_length_eq_zero h1, List.eq_nil_of_length_eq_zero h2]
    | succ n ih =>
      intro a b h1 h2 ha hb h
      have ea := List.dropLast_concat_getLast (l := a) (by intro e; rw [e] at h1; simp at h1)
      have eb := List.dropLast_concat_getLast (l := b) (by intro e; rw [e] at h2; simp at h2)
      rw [← ea, ← eb] at h ⊢
      rw [valOf_snoc, valOf_snoc] at h
      have la := ha _ (List.getLast_mem (by intro e; rw [e] at h1; simp at h1))
      have lb := hb _ (List.getLast_mem (by intro e; rw [e] at h2; simp at h2))
      have hv : valOf a.dropLast = valOf b.dropLast := by omega
      have hlst : a.getLast (by intro e; rw [e] at h1; simp at h1) = b.getLast (by intro e; rw [e] at h2; simp at h2) := by omega
      rw [ih a.dropLast b.dropLast (by simp; omega) (by simp; omega) (fun d hd => ha d (List.dropLast_subset a hd)) (fun d hd => hb d (List.dropLast_subset b hd)) hv, hlst]
  exact key _ a b rfl hl.symm ha hb h
theorem take_split (xs : List Nat) (k n : Nat) (hk : k < xs.length) (hn : k < n) : xs.take n = xs.take k ++ xs.getD k 0 :: (xs.drop (k + 1)).take (n - (k + 1)) := by
  have h : xs.take n = (xs.take n).take k ++ (xs.take n).drop k := (List.take_append_drop _ _).symm
  rw [h, List.take_take, Nat.min_eq_left (by omega), List.drop_take, drop_cons_of xs 0 k hk, show n - k = (n - (k + 1)) + 1 by omega, List.take_succ_cons]
/-- spoilt in one place they are refused -/
theorem dec_spoilt (xs : List Nat) (k y : Nat) (hx : ∀ d ∈ xs, d < 256) (hk : k < xs.length) (hy : y < 256) (hne : xs.getD k 0 ≠ y) (h0 : (dec xs).2 = 0) : (dec (xs.set k y)).2 ≠ 0 := by
  intro h
  obtain ⟨l4, e1⟩ := dec_sum h0
  obtain ⟨_, e2⟩ := dec_sum h
  rw [List.length_set] at e2
  by_cases hc : k < xs.length - 4
  · have ed : (xs.set k y).drop (xs.length - 4) = xs.drop (xs.length - 4) := by
      apply List.ext_getElem?
      intro i
      rw [List.getElem?_drop, List.getElem?_drop, List.getElem?_set_ne (by omega)]
    rw [ed, e1] at e2
    have t1 : xs.take (xs.length - 4) = xs.take k ++ xs.getD k 0 :: (xs.drop (k + 1)).take (xs.length - 4 - (k + 1)) := take_split xs k _ hk hc
    have t2 : (xs.set k y).take (xs.length - 4) = xs.take k ++ y :: (xs.drop (k + 1)).take (xs.length - 4 - (k + 1)) := by
      rw [List.take_set, t1]
      rw [List.set_append_right _ _ (by rw [List.length_take]; omega), List.length_take, Nat.min_eq_left (by omega), Nat.sub_self, List.set_cons_zero]
    rw [t1, t2] at e2
    refine hne (sum_other _ _ _ _ ?_ hy (fun d hd => hx d (List.mem_of_mem_take hd)) (fun d hd => hx d (List.mem_of_mem_drop (List.mem_of_mem_take hd))) e2)
    rw [getD_at _ _ _ hk]
    exact hx _ (List.getElem_mem hk)
  · have et : (xs.set k y).take (xs.length - 4) = xs.take (xs.length - 4) := by
      apply List.ext_getElem?
      intro i
      by_cases hi : i < xs.length - 4
      · rw [List.getElem?_take_of_lt hi, List.getElem?_take_of_lt hi, List.getElem?_set_ne (by omega)]
      · rw [List.getElem?_eq_none (by simp; omega), List.getElem?_eq_none (by simp; omega)]
    rw [et, ← e1] at e2
    have hs : ∀ d ∈ xs.set k y, d < 256 := fun d hd => by
      rcases List.mem_or_eq_of_mem_set hd with h | rfl
      · exact hx d h
      · exact hy
    have := val_inj _ _ (by simp) (fun d hd => hs d (List.mem_of_mem_drop hd)) (fun d hd => hx d (List.mem_of_mem_drop hd)) e2
    have h2 := congrArg (fun l => l[k - (xs.length - 4)]?) this
    simp only [List.getElem?_drop] at h2
    rw [show xs.length - 4 + (k - (xs.length - 4)) = k by omega, List.getElem?_set_self (by omega)] at h2
    refine hne ?_
    simp [List.getD, ← h2]
end Go.Proofs.Ytpfdgcdhcciilaa
