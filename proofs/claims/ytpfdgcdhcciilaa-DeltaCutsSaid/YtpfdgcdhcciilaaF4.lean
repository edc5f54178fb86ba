/- Rows of changes, and the two functions that tell whether they are right. -/
import Derived.Test.YtpfdgcdhcciilaaF3
namespace Go.Proofs.Ytpfdgcdhcciilaa
open Go.RowKit

structure Chg where
  bay : Int
  old : Nat
  data : List Nat
  deriving DecidableEq, Inhabited

/-- changes as a slice holds them: three cells each -/
def Chs (w : World) (A : Option Addr) (cs : List Chg) : Prop :=
  0 < cs.length → ∃ b off, A = some ⟨b, off, none⟩ ∧ ∀ i, i < cs.length →
    w.cell? ⟨b, off + i * 3, none⟩ = some (.int .i64 (cs.getD i default).bay) ∧
    w.cell? ⟨b, off + i * 3 + 1, none⟩ = some (.int .u32 (((cs.getD i default).old : Nat) : Int)) ∧
    (cs.getD i default).old < 4294967296 ∧
    ∃ P c, w.cell? ⟨b, off + i * 3 + 2, none⟩ = some (.slice P (cs.getD i default).data.length c) ∧ Byt w P (cs.getD i default).data

theorem Chs.below {w w' : World} {A : Option Addr} {cs : List Chg} (h : Chs w A cs) (hb : Below w.heap.size w w') : Chs w' A cs := by
  intro h0
  obtain ⟨b, off, e, hc⟩ := h h0
  refine ⟨b, off, e, fun i hi => ?_⟩
  obtain ⟨h1, h2, h3, P, c, h4, h5⟩ := hc i hi
  exact ⟨(hb.cell (World.block_lt_of_cell? _ _ h1)).trans h1, (hb.cell (World.block_lt_of_cell? _ _ h2)).trans h2, h3, P, c, (hb.cell (World.block_lt_of_cell? _ _ h4)).trans h4, h5.below hb⟩

def rightFrom : Int → List Chg → Bool
  | _, [] => true
  | last, c :: cs => if c.bay ≤ last ∨ 256 ≤ c.bay ∨ c.data.length < 2 then false else rightFrom c.bay cs
def rightC (cs : List Chg) : Bool := rightFrom (-1) cs
def lastOf (cs : List Chg) (k : Nat) : Int := if k = 0 then -1 else (cs.getD (k - 1) default).bay
theorem right_drop (cs : List Chg) (last : Int) (k : Nat) (h : k < cs.length) : rightFrom last (cs.drop k) = (if (cs.getD k default).bay ≤ last ∨ 256 ≤ (cs.getD k default).bay ∨ (cs.getD k default).data.length < 2 then false else rightFrom (cs.getD k default).bay (cs.drop (k + 1))) := by
  rw [drop_cons_of cs default k h]
  rfl

set_option maxHeartbeats 1000000 in
theorem right_any (A : Option Addr) (c : Nat) (cs : List Chg) (w : World) (hB : Chs w A cs) (hl : cs.length ≤ maxLen) :
    Calls Try.prog 11 #[.slice A cs.length c] w fun e w' => e = .returned (.bool (rightC cs)) ∧ Below w.heap.size w w' := by
  unfold maxLen at hl
  go_enter Try.func11, Try.ntmps11
  go_wp2
  go_loopw [3, 8] (fun l i wr => ∃ k : Nat, ∃ last : Int, Below w.heap.size w wr ∧ k ≤ cs.length ∧ i = .int .i64 k ∧ l = .int .i64 last ∧ rightFrom last (cs.drop k) = rightC cs) (fun _ i _ => cs.length - (intOf i).toNat)
  case atStart => exact ⟨0, -1, Below.refl _ _, by omega, rfl, rfl, rfl⟩
  case round =>
    obtain ⟨k, last, hb, hk, rfl, rfl, he⟩ := hrel
    by_cases hlt : k < cs.length
    · have HR := Lib.hid (right_drop cs last k hlt)
      have HE := Lib.hid he
      clear he
      obtain ⟨b, off, rfl, hc⟩ := (hB.below hb) (by omega)
      obtain ⟨c0, c1, _, P, cP, c2, _⟩ := hc k hlt
      clear hc hB
      generalize cs.getD k default = x at *
      obtain ⟨bay, old, data⟩ := x
      dsimp only at *
      have hb2 := hb.alloc hb.size (Obj.cells #[Value.int IntKind.i64 bay, Value.int IntKind.u32 ↑old, Value.slice P data.length cP] 45)
      cases h1 : (decide (bay ≤ last))
      · cases h2 : (decide (256 ≤ bay))
        · cases h3 : (decide ((data.length : Int) < 2))
          · go_wp2
            refine ⟨⟨k + 1, bay, hb2, by omega, by go_num, rfl, ?_⟩, by simp [intOf]; omega⟩
            rw [← HE.out, HR.out, if_neg (by simp at h1 h2 h3; omega)]
          · have hF : Hid (rightC cs = false) := by
              show rightC cs = false
              rw [← HE.out, HR.out, if_pos (by simp at h1 h2 h3; omega)]
            go_wp2
            go_ret
            exact ⟨by rw [hF.out]; rfl, hb2⟩
        · have hF : Hid (rightC cs = false) := by
            show rightC cs = false
            rw [← HE.out, HR.out, if_pos (by simp at h1 h2; omega)]
          go_wp2
          go_ret
          exact ⟨by rw [hF.out]; rfl, hb2⟩
      · have hF : Hid (rightC cs = false) := by
          show rightC cs = false
          rw [← HE.out, HR.out, if_pos (by simp at h1; omega)]
        go_wp2
        go_ret
        exact ⟨by rw [hF.out]; rfl, hb2⟩
    · have HF : Hid (rightC cs = true) := by
        show rightC cs = true
        rw [← he, List.drop_eq_nil_of_le (by omega)]
        rfl
      go_wp2
      go_ret
      exact ⟨by rw [HF.out]; rfl, hb⟩

set_option maxHeartbeats 1000000 in
theorem refRight_any (A : Option Addr) (c : Nat) (cs : List Chg) (w : World) (hB : Chs w A cs) (hl : cs.length ≤ maxLen) :
    Calls Try.prog 8 #[.slice A cs.length c] w fun e w' => e = .returned (.bool (rightC cs)) ∧ ∃ n, w' = w.drewN n := by
  unfold maxLen at hl
  go_enter Try.func8, Try.ntmps8
  go_wp2
  go_loopw [3] (fun i wr => ∃ k n : Nat, wr = w.drewN n ∧ k ≤ cs.length ∧ i = .int .i64 k ∧ -1 ≤ lastOf cs k ∧ rightFrom (lastOf cs k) (cs.drop k) = rightC cs) (fun i _ => cs.length - (intOf i).toNat)
  case atStart => exact ⟨0, 0, rfl, by omega, rfl, by simp [lastOf], rfl⟩
  case round =>
    obtain ⟨k, n, rfl, hk, rfl, hL, he⟩ := hrel
    by_cases hlt : k < cs.length
    · have HR := Lib.hid (right_drop cs (lastOf cs k) k hlt)
      have HE := Lib.hid he
      clear he
      have HL := Lib.hid (show lastOf cs (k + 1) = (cs.getD k default).bay from by simp [lastOf])
      obtain ⟨b, off, rfl, hc⟩ := hB (by omega)
      obtain ⟨c0, c1, _, P, cP, c2, _⟩ := hc k hlt
      have i1 : (0 : Int) ≤ (k : Int) := by omega
      have i2 : (k : Int) < (cs.length : Int) := by omega
      by_cases hk0 : k = 0
      · have h4 : decide (0 < k) = false := by simp; omega
        have hlast : lastOf cs k = -1 := by simp [lastOf, hk0]
        rw [hlast] at HR HE
        clear hc hB hL hlast hk0
        generalize cs.getD k default = x at *
        obtain ⟨bay, old, data⟩ := x
        dsimp only at *
        cases h1 : decide (bay < 0)
        · cases h2 : decide (255 < bay)
          · cases h3 : (decide ((data.length : Int) < 2))
            · go_wp2
              go_quiet (fail)
              go_wp2
              refine ⟨⟨k + 1, _, rfl, by omega, by go_num, ?_, ?_⟩, by simp [intOf]; omega⟩
              · rw [HL.out]; simp at h1; omega
              · rw [← HE.out, HR.out, if_neg (by simp at h1 h2 h3; omega), HL.out]
            · have hF : Hid (rightC cs = false) := by
                show rightC cs = false
                rw [← HE.out, HR.out, if_pos (by simp at h3; omega)]
              go_wp2
              go_quiet (fail)
              go_wp2
              go_ret
              exact ⟨by rw [hF.out]; rfl, n + nq, by first | rfl | rw [World.drewN_drewN]⟩
          · have hF : Hid (rightC cs = false) := by
              show rightC cs = false
              rw [← HE.out, HR.out, if_pos (by simp at h2; omega)]
            go_wp2
            go_quiet (fail)
            go_wp2
            go_ret
            exact ⟨by rw [hF.out]; rfl, n + nq, by first | rfl | rw [World.drewN_drewN]⟩
        · have hF : Hid (rightC cs = false) := by
            show rightC cs = false
            rw [← HE.out, HR.out, if_pos (by simp at h1; omega)]
          go_wp2
          go_quiet (fail)
          go_wp2
          go_ret
          exact ⟨by rw [hF.out]; rfl, n + nq, by first | rfl | rw [World.drewN_drewN]⟩
      · have h4 : decide (0 < k) = true := by simp; omega
        have hlast : lastOf cs k = (cs.getD (k - 1) default).bay := by simp [lastOf, hk0]
        rw [hlast] at HR HE hL
        obtain ⟨c3, _⟩ := hc (k - 1) (by omega)
        have hwk : IntKind.i64.wrap ((k : Int) - 1) = ((k - 1 : Nat) : Int) := by rw [IntWalk.i64_in _ ⟨by omega, by omega⟩]; omega
        have i3 : (0 : Int) ≤ ((k - 1 : Nat) : Int) := by omega
        have i4 : ((k - 1 : Nat) : Int) < (cs.length : Int) := by omega
        clear hc hB hlast hk0
        generalize cs.getD (k - 1) default = x' at *
        obtain ⟨bay', old', data'⟩ := x'
        dsimp only at *
        generalize cs.getD k default = x at *
        obtain ⟨bay, old, data⟩ := x
        dsimp only at *
        cases h1 : decide (bay < 0)
        · cases h2 : decide (255 < bay)
          · cases h3 : (decide ((data.length : Int) < 2))
            · cases h5 : decide (bay ≤ bay')
              · go_wp2
                go_quiet (fail)
                go_wp2
                refine ⟨⟨k + 1, _, rfl, by omega, by go_num, ?_, ?_⟩, by simp [intOf]; omega⟩
                · rw [HL.out]; simp at h1; omega
                · rw [← HE.out, HR.out, if_neg (by simp at h1 h2 h3 h5; omega), HL.out]
              · have hF : Hid (rightC cs = false) := by
                  show rightC cs = false
                  rw [← HE.out, HR.out, if_pos (by simp at h5; omega)]
                go_wp2
                go_quiet (fail)
                go_wp2
                go_ret
                exact ⟨by rw [hF.out]; rfl, n + nq, by first | rfl | rw [World.drewN_drewN]⟩
            · have hF : Hid (rightC cs = false) := by
                show rightC cs = false
                rw [← HE.out, HR.out, if_pos (by simp at h3; omega)]
              go_wp2
              go_quiet (fail)
              go_wp2
              go_ret
              exact ⟨by rw [hF.out]; rfl, n + nq, by first | rfl | rw [World.drewN_drewN]⟩
          · have hF : Hid (rightC cs = false) := by
              show rightC cs = false
              rw [← HE.out, HR.out, if_pos (by simp at h2; omega)]
            go_wp2
            go_quiet (fail)
            go_wp2
            go_ret
            exact ⟨by rw [hF.out]; rfl, n + nq, by first | rfl | rw [World.drewN_drewN]⟩
        · have hF : Hid (rightC cs = false) := by
            show rightC cs = false
            rw [← HE.out, HR.out, if_pos (by simp at h1; omega)]
          go_wp2
          go_quiet (fail)
          go_wp2
          go_ret
          exact ⟨by rw [hF.out]; rfl, n + nq, by first | rfl | rw [World.drewN_drewN]⟩
    · have HF : Hid (rightC cs = true) := by
        show rightC cs = true
        rw [← he, List.drop_eq_nil_of_le (by omega)]
        rfl
      go_wp2
      go_ret
      exact ⟨by rw [HF.out]; rfl, _, rfl⟩
end Go.Proofs.Ytpfdgcdhcciilaa
