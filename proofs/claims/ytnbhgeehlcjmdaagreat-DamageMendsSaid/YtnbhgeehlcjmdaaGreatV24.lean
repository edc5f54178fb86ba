/- Proved here: heaps as relations, for regions that draw their order. -/
import Derived.Test.YtnbhgeehlcjmdaaGreatV23
namespace Go.Ev.F
open Go Go.Ev

structure SimR (Bh : Nat → Prop) (w0 : World) (ι : Mp) (R : Nat → Obj → Prop) (w : World) : Prop where
  objs : ∀ b o p, R b o → ι b = some p → ObjR ι p w.heap[p.blk]? o
  inj : ∀ b c o o' p q, R b o → R c o' → ι b = some p → ι c = some q → p.blk = q.blk → b = c
  mine : ∀ b o p, R b o → ι b = some p → Bh p.blk
  old : ∀ k, ¬ Bh k → w.heap[k]? = w0.heap[k]?
  newB : ∀ k, w0.heap.size ≤ k → Bh k
  size : w0.heap.size ≤ w.heap.size
  os : w.os = w0.os
  tape : w.tape = w0.tape
  output : w.output = w0.output
def Dom (h : HT) (n : Nat) : Prop := ∀ b o, hget h b = some o → b < n
variable {Bh : Nat → Prop} {w0 w : World} {ι : Mp} {R R' : Nat → Obj → Prop}
theorem Sim.toR {B : Bd} {h : HT} {nx : Nat} (S : Sim B w0 ι h nx w) : SimR B.has w0 ι (fun b o => hget h b = some o) w :=
  ⟨S.objs, S.inj, S.mine, S.old, S.newB, S.size, S.os, S.tape, S.output⟩
theorem SimR.sub (S : SimR Bh w0 ι R w) (h : ∀ b o p, R' b o → ι b = some p → R b o) : SimR Bh w0 ι R' w :=
  ⟨fun b o p hb hp => S.objs b o p (h b o p hb hp) hp, fun b c o o' p q hb hc hp hq e => S.inj b c o o' p q (h b o p hb hp) (h c o' q hc hq) hp hq e, fun b o p hb hp => S.mine b o p (h b o p hb hp) hp, S.old, S.newB, S.size, S.os, S.tape, S.output⟩
theorem SimR.toSim {h : HT} {nx hi : Nat} (S : SimR Bh w0 ι (fun b o => hget h b = some o) w) (hd : Dom h nx) (hf : ∀ b, nx ≤ b → b < hi → ι b = none) : Sim ⟨Bh, hi⟩ w0 ι h nx w :=
  ⟨S.objs, hd, S.inj, hf, S.mine, S.old, S.newB, S.size, S.os, S.tape, S.output⟩
theorem SimR.lt (S : SimR Bh w0 ι R w) {b : Nat} {o : Obj} {p : Place} (hb : R b o) (hp : ι b = some p) : p.blk < w.heap.size := (S.objs b o p hb hp).lt
/-- one more object, in a new block -/
theorem SimR.new {w' : World} {id base size : Nat} {y : Go.Obj} {ob : Obj} (S : SimR Bh w0 ι R w) (hid : ι id = none) (h1 : w'.heap = w.heap.push y) (h2 : w'.os = w.os) (h3 : w'.tape = w.tape) (h4 : w'.output = w.output)
    (ho : ObjR ι ⟨w.heap.size, base, size⟩ (some y) ob) (hR : ∀ b o, R' b o → R b o ∨ (b = id ∧ o = ob)) (hR2 : ∀ o, R' id o → o = ob) : SimR Bh w0 (ι.put id ⟨w.heap.size, base, size⟩) R' w' := by
  have hle : ι.le (ι.put id ⟨w.heap.size, base, size⟩) := Mp.put_le hid
  have key : ∀ b o p, R' b o → (ι.put id ⟨w.heap.size, base, size⟩) b = some p → (b = id ∧ o = ob ∧ p = ⟨w.heap.size, base, size⟩) ∨ (b ≠ id ∧ R b o ∧ ι b = some p ∧ p.blk < w.heap.size) := fun b o p hb hp => by
    by_cases e : b = id
    · subst e
      rw [Mp.put_same] at hp; cases hp
      exact .inl ⟨rfl, hR2 o hb, rfl⟩
    · have hp' := Mp.put_ne hp e
      rcases hR b o hb with hb' | ⟨e', _⟩
      · exact .inr ⟨e, hb', hp', S.lt hb' hp'⟩
      · exact absurd e' e
  have hkeep : ∀ k, k < w.heap.size → w'.heap[k]? = w.heap[k]? := fun k hk => by rw [h1]; simp [Array.getElem?_push]; omega
  refine ⟨fun b o p hb hp => ?_, fun b c o o' p q hb hc hp hq e => ?_, fun b o p hb hp => ?_, fun k hk => ?_, S.newB, by rw [h1]; simp; have := S.size; omega, h2.trans S.os, h3.trans S.tape, h4.trans S.output⟩
  · rcases key b o p hb hp with ⟨rfl, rfl, rfl⟩ | ⟨_, hb', hp', hlt⟩
    · rw [h1]; simpa using ho.mono hle
    · rw [hkeep _ hlt]; exact (S.objs b o p hb' hp').mono hle
  · rcases key b o p hb hp with ⟨rfl, rfl, rfl⟩ | ⟨_, hb', hp', hlt⟩ <;> rcases key c o' q hc hq with ⟨rfl, rfl, rfl⟩ | ⟨_, hc', hq', hlt'⟩
    · rfl
    · simp only at e; omega
    · simp only at e; omega
    · exact S.inj b c o o' p q hb' hc' hp' hq' e
  · rcases key b o p hb hp with ⟨rfl, rfl, rfl⟩ | ⟨_, hb', hp', hlt⟩
    · exact S.newB _ S.size
    · exact S.mine b o p hb' hp'
  · have hlt : k < w.heap.size := by
      rcases Nat.lt_or_ge k w.heap.size with h | h
      · exact h
      · exact absurd (S.newB k (Nat.le_trans S.size h)) hk
    rw [hkeep k hlt]; exact S.old k hk
/-- the frame rule: what stands beside the heap that an operation works on -/
theorem SimR.frame {h h' : HT} {n n' n2 : Nat} {w' : World} {ι' : Mp} {X : Nat → Obj → Prop} (S : SimR Bh w0 ι R w) (hle : ι.le ι') (hX : ∀ b o, X b o → R b o ∧ n2 ≤ b) (hXs : ∀ b o, X b o → ι' b = ι b) (hd : Dom h n2)
    (hh : ∀ b o p, hget h b = some o → ι b = some p → R b o)
    (S' : Sim ⟨fun k => (∃ b o p, hget h b = some o ∧ ι b = some p ∧ p.blk = k) ∨ w.heap.size ≤ k, n⟩ w ι' h' n' w')
    (hR : ∀ b o p, R' b o → ι' b = some p → hget h' b = some o ∨ X b o) : SimR Bh w0 ι' R' w' := by
  have hin : ∀ k, ((∃ b o p, hget h b = some o ∧ ι b = some p ∧ p.blk = k) ∨ w.heap.size ≤ k) → Bh k := fun k hk => by
    rcases hk with ⟨b, o, p, hb, hp, rfl⟩ | hk
    · exact S.mine b o p (hh b o p hb hp) hp
    · exact S.newB k (Nat.le_trans S.size hk)
  have hx : ∀ b o p, X b o → ι' b = some p → ι b = some p ∧ R b o ∧ ¬ ((∃ b o q, hget h b = some o ∧ ι b = some q ∧ q.blk = p.blk) ∨ w.heap.size ≤ p.blk) := fun b o p hb hp => by
    obtain ⟨hr, hn⟩ := hX b o hb
    have hp' : ι b = some p := by rw [← hXs b o hb]; exact hp
    refine ⟨hp', hr, ?_⟩
    rintro (⟨c, o', q, hc, hq, e⟩ | hge)
    · have := S.inj c b o' o q p (hh c o' q hc hq) hr hq hp' e
      have := hd c o' hc
      omega
    · have := S.lt hr hp'; omega
  refine ⟨fun b o p hb hp => ?_, fun b c o o' p q hb hc hp hq e => ?_, fun b o p hb hp => ?_, fun k hk => ?_, S.newB, Nat.le_trans S.size S'.size, S'.os.trans S.os, S'.tape.trans S.tape, S'.output.trans S.output⟩
  · rcases hR b o p hb hp with h1 | h1
    · exact S'.objs b o p h1 hp
    · obtain ⟨hp', hr, hnot⟩ := hx b o p h1 hp
      rw [S'.old p.blk hnot]
      exact (S.objs b o p hr hp').mono hle
  · rcases hR b o p hb hp with h1 | h1 <;> rcases hR c o' q hc hq with h2 | h2
    · exact S'.inj b c o o' p q h1 h2 hp hq e
    · obtain ⟨hq', hr, hnot⟩ := hx c o' q h2 hq
      have := S'.mine b o p h1 hp
      rw [e] at this
      exact absurd this hnot
    · obtain ⟨hp', hr, hnot⟩ := hx b o p h1 hp
      have := S'.mine c o' q h2 hq
      rw [← e] at this
      exact absurd this hnot
    · obtain ⟨hp', hr, _⟩ := hx b o p h1 hp
      obtain ⟨hq', hr', _⟩ := hx c o' q h2 hq
      exact S.inj b c o o' p q hr hr' hp' hq' e
  · rcases hR b o p hb hp with h1 | h1
    · exact hin _ (S'.mine b o p h1 hp)
    · obtain ⟨hp', hr, _⟩ := hx b o p h1 hp
      exact S.mine b o p hr hp'
  · exact (S'.old k (fun h' => hk (hin k h'))).trans (S.old k hk)
end Go.Ev.F
