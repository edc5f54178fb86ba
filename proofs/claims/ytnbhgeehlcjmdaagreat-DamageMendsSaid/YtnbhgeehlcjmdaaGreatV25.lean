/- Proved here: which operations are ready, in a region that draws its order. -/
import Derived.Test.YtnbhgeehlcjmdaaGreatV24
namespace Go.Ev.F
open Go Go.Ev
variable {ops : Array Oper} {l : List Stp}

def InL (L : Array Bool) (i : Nat) : Prop := L[i]? = some true
def Closed (l : List Stp) (L : Array Bool) : Prop := ∀ (k : Nat) (s : Stp), l[k]? = some s → InL L s.pt.ix → ∀ i, s.pt.cl.testBit i = true → InL L i
theorem InL.getD {L : Array Bool} {i : Nat} : L.getD i false = true ↔ InL L i := by
  unfold InL
  rw [Array.getD_eq_getD_getElem?]
  cases h : L[i]? with
  | none => simp
  | some b => simp
theorem mem_ready {L : Array Bool} {i : Nat} (h : i ∈ Region.ready .any ops L) : ∃ o, ops[i]? = some o ∧ i < ops.size ∧ ¬ InL L i ∧ ∀ e ∈ o.after.toList, Region.binds .any e = true → InL L e.on := by
  unfold Region.ready at h
  rw [List.mem_filter] at h
  obtain ⟨h1, h2⟩ := h
  have hlt : i < ops.size := by simpa using h1
  simp only [Bool.and_eq_true, Bool.not_eq_true'] at h2
  obtain ⟨h2, h3⟩ := h2
  have ho : ops[i]? = some ops[i] := by simp [hlt]
  rw [ho] at h3
  simp only [Option.map_some, Option.getD_some] at h3
  refine ⟨ops[i], ho, hlt, fun hin => ?_, fun e he hb => ?_⟩
  · have : L.getD i true = true := by
      rw [Array.getD_eq_getD_getElem?]
      unfold InL at hin
      rw [hin]; rfl
    rw [this] at h2; cases h2
  · rw [Array.all_eq_true_iff_forall_mem] at h3
    have := h3 e (by simpa using he)
    rw [hb] at this
    simp only [Bool.not_true, Bool.false_or] at this
    exact InL.getD.1 this
theorem ready_mem {L : Array Bool} {i : Nat} {o : Oper} (hs : L.size = ops.size) (ho : ops[i]? = some o) (hn : ¬ InL L i) (he : ∀ e ∈ o.after.toList, Region.binds .any e = true → InL L e.on) : i ∈ Region.ready .any ops L := by
  have hlt := (Array.getElem?_eq_some_iff.1 ho).1
  unfold Region.ready
  rw [List.mem_filter]
  refine ⟨by simpa using hlt, ?_⟩
  simp only [Bool.and_eq_true, Bool.not_eq_true']
  refine ⟨?_, ?_⟩
  · rw [Array.getD_eq_getD_getElem?]
    have hl : L[i]? = some L[i] := by simp [hs, hlt]
    rw [hl]
    simp only [Option.getD_some]
    cases hb : L[i] with
    | false => rfl
    | true => exact absurd (by unfold InL; rw [hl, hb]) hn
  · rw [ho]
    simp only [Option.map_some, Option.getD_some]
    rw [Array.all_eq_true_iff_forall_mem]
    intro e hm
    cases hb : Region.binds .any e with
    | false => rfl
    | true => simp only [Bool.not_true, Bool.false_or]; exact InL.getD.2 (he e (by simpa using hm) hb)
theorem cl_at {i : Nat} {o : Oper} {c : Nat} (ho : ops[i]? = some o) (hc : (cloL [] ops.toList)[i]? = some c) : c = edgeBits ((cloL [] ops.toList).take i) o := by
  obtain ⟨r, h1, h2, h3⟩ := cloL_spec ops.toList []
  have := h3 i o (by simpa using ho)
  simp only [List.length_nil, Nat.zero_add] at this
  rw [hc] at this
  exact Option.some.inj this
theorem ready_closed (pl : Plan ops l) {L : Array Bool} {k : Nat} {s : Stp} (hs : L.size = ops.size) (hcl : Closed l L) (hk : l[k]? = some s) (hr : s.pt.ix ∈ Region.ready .any ops L) : ∀ x, s.pt.cl.testBit x = true → InL L x := by
  intro x hx
  obtain ⟨o, ho, hlt, hn, he⟩ := mem_ready hr
  obtain ⟨h1, h2, h3, h4⟩ := pl.at' k s hk
  rw [h1] at ho; cases ho
  rw [cl_at h1 h2] at hx
  obtain ⟨e, he1, he2, hx⟩ := (edgeBits_spec _ _ _).1 hx
  have hin := he e he1 he2
  rcases hx with rfl | hx
  · exact hin
  · have hlt2 : e.on < ops.size := by
      have := (Array.getElem?_eq_some_iff.1 hin).1
      omega
    obtain ⟨k', t, hk', ht⟩ := pl.cover e.on hlt2
    obtain ⟨g1, g2, g3, g4⟩ := pl.at' k' t hk'
    refine hcl k' t hk' (by rw [ht]; exact hin) x ?_
    rw [ht] at g2
    by_cases hlt3 : e.on < s.pt.ix
    · have : ((cloL [] ops.toList).take s.pt.ix).getD e.on 0 = t.pt.cl := by
        rw [List.getD_eq_getElem?_getD, List.getElem?_take, if_pos hlt3, g2]; rfl
      rw [this] at hx; exact hx
    · have : ((cloL [] ops.toList).take s.pt.ix).getD e.on 0 = 0 := by
        rw [List.getD_eq_getElem?_getD, List.getElem?_take, if_neg hlt3]; rfl
      rw [this] at hx; simp at hx
theorem ready_of (pl : Plan ops l) {L : Array Bool} {k : Nat} {s : Stp} (hs : L.size = ops.size) (hk : l[k]? = some s) (hn : ¬ InL L s.pt.ix) (hc : ∀ x, s.pt.cl.testBit x = true → InL L x) : s.pt.ix ∈ Region.ready .any ops L := by
  obtain ⟨h1, h2, h3, h4⟩ := pl.at' k s hk
  refine ready_mem hs h1 hn fun e he hb => hc e.on ?_
  rw [cl_at h1 h2]
  exact (edgeBits_spec _ _ _).2 ⟨e, he, hb, .inl rfl⟩
theorem Plan.ix_ne (pl : Plan ops l) {j k : Nat} {s q : Stp} (hj : l[j]? = some s) (hk : l[k]? = some q) (h : j ≠ k) : s.pt.ix ≠ q.pt.ix := by
  rcases Nat.lt_or_gt_of_ne h with hlt | hlt
  · have := pl.pair j k s q hlt hj hk
    simp only [relS, Bool.and_eq_true, bne_iff_ne] at this
    exact this.1
  · have := pl.pair k j q s hlt hk hj
    simp only [relS, Bool.and_eq_true, bne_iff_ne] at this
    exact fun e => this.1 e.symm
theorem Plan.ix_inj (pl : Plan ops l) {j k : Nat} {s q : Stp} (hj : l[j]? = some s) (hk : l[k]? = some q) (h : s.pt.ix = q.pt.ix) : j = k := by
  rcases Nat.decEq j k with e | e
  · exact absurd h (pl.ix_ne hj hk e)
  · exact e
end Go.Ev.F
