/- How far two points are: lattice.Far and the reference's Far: walks. -/
import Derived.Test.YtppkbnajpeoaaaaA8
namespace Go.Proofs.Ytppkbnajpeoaaaa
open Go.RowKit

def maxI : Int := 9223372036854775807
def farC (a b : Int) : Int := if a < b then (if b - a ≤ 9223372036854775807 then b - a else 9223372036854775807) else (if a - b ≤ 9223372036854775807 then a - b else 9223372036854775807)
def mx (a b : Int) : Int := if a < b then b else a
def farTo (a b c x y z : Int) : Nat → Int
  | 0 => 0
  | 1 => mx 0 (farC a x)
  | 2 => mx (mx 0 (farC a x)) (farC b y)
  | _ => mx (mx (mx 0 (farC a x)) (farC b y)) (farC c z)
def in64 (a : Int) : Prop := -9223372036854775808 ≤ a ∧ a ≤ 9223372036854775807
theorem u64_sub (a b : Int) (ha : in64 a) (hb : in64 b) (h : b ≤ a) : IntKind.u64.wrap (IntKind.u64.wrap a - IntKind.u64.wrap b) = a - b := by
  unfold in64 at ha hb
  simp only [IntKind.wrap, IntKind.bits, IntKind.signed]
  simp
  omega
theorem farC_nonneg (a b : Int) : 0 ≤ farC a b ∧ farC a b ≤ 9223372036854775807 := by
  unfold farC
  split <;> split <;> omega
theorem mx_nonneg (a b : Int) (ha : 0 ≤ a ∧ a ≤ 9223372036854775807) (hb : 0 ≤ b ∧ b ≤ 9223372036854775807) : 0 ≤ mx a b ∧ mx a b ≤ 9223372036854775807 := by
  unfold mx
  split <;> omega
theorem farTo_nonneg (a b c x y z : Int) (k : Nat) : 0 ≤ farTo a b c x y z k ∧ farTo a b c x y z k ≤ 9223372036854775807 := by
  have h0 : (0 : Int) ≤ 0 ∧ (0 : Int) ≤ 9223372036854775807 := by omega
  match k with
  | 0 => exact h0
  | 1 => exact mx_nonneg _ _ h0 (farC_nonneg _ _)
  | 2 => exact mx_nonneg _ _ (mx_nonneg _ _ h0 (farC_nonneg _ _)) (farC_nonneg _ _)
  | _ + 3 => exact mx_nonneg _ _ (mx_nonneg _ _ (mx_nonneg _ _ h0 (farC_nonneg _ _)) (farC_nonneg _ _)) (farC_nonneg _ _)
/-- the ways of one round: the greater, the difference, the maximum -/
theorem far_ways (a x f : Int) :
    (a < x ∧ (x - a ≤ 9223372036854775807 ∧ ((f < x - a ∧ mx f (farC a x) = x - a) ∨ (x - a ≤ f ∧ mx f (farC a x) = f)) ∨
              9223372036854775807 < x - a ∧ ((f < 9223372036854775807 ∧ mx f (farC a x) = 9223372036854775807) ∨ (9223372036854775807 ≤ f ∧ mx f (farC a x) = f)))) ∨
    (x ≤ a ∧ (a - x ≤ 9223372036854775807 ∧ ((f < a - x ∧ mx f (farC a x) = a - x) ∨ (a - x ≤ f ∧ mx f (farC a x) = f)) ∨
              9223372036854775807 < a - x ∧ ((f < 9223372036854775807 ∧ mx f (farC a x) = 9223372036854775807) ∨ (9223372036854775807 ≤ f ∧ mx f (farC a x) = f)))) := by
  unfold mx farC
  by_cases h : a < x
  · left
    refine ⟨h, ?_⟩
    rw [if_pos h]
    by_cases h2 : x - a ≤ 9223372036854775807
    · left
      rw [if_pos h2]
      refine ⟨h2, ?_⟩
      split <;> omega
    · right
      rw [if_neg h2]
      refine ⟨by omega, ?_⟩
      split <;> omega
  · right
    refine ⟨by omega, ?_⟩
    rw [if_neg h]
    by_cases h2 : a - x ≤ 9223372036854775807
    · left
      rw [if_pos h2]
      refine ⟨h2, ?_⟩
      split <;> omega
    · right
      rw [if_neg h2]
      refine ⟨by omega, ?_⟩
      split <;> omega

def FarRel (a b c x y z : Int) (w : World) (f i : Value) (wr : World) : Prop :=
  ∃ n : Nat, wr = ((w.alloc (.cells #[.int .i64 a, .int .i64 b, .int .i64 c] 23)).alloc (.cells #[.int .i64 x, .int .i64 y, .int .i64 z] 23)).drewN n ∧ ((i = .int .i64 0 ∧ f = .int .i64 0) ∨ (i = .int .i64 1 ∧ f = .int .i64 (mx 0 (farC a x))) ∨ (i = .int .i64 2 ∧ f = .int .i64 (mx (mx 0 (farC a x)) (farC b y))) ∨ (i = .int .i64 3 ∧ f = .int .i64 (mx (mx (mx 0 (farC a x)) (farC b y)) (farC c z))))

set_option maxHeartbeats 4000000 in
theorem far_any (a b c x y z : Int) (w : World) (ha : in64 a) (hb : in64 b) (hc : in64 c) (hx : in64 x) (hy : in64 y) (hz : in64 z) :
    Calls Try.prog 17 #[.agg #[.int .i64 a, .int .i64 b, .int .i64 c], .agg #[.int .i64 x, .int .i64 y, .int .i64 z]] w fun e w' => e = .returned (.int .i64 (farTo a b c x y z 3)) ∧ Below w.heap.size w w' := by
  go_enter Try.func17, Try.ntmps17
  go_wp2
  go_loopw [5, 8] (fun f i wr => FarRel a b c x y z w f i wr) (fun _ i _ => 3 - (intOf i).toNat)
  case atStart => exact ⟨0, rfl, .inl ⟨rfl, rfl⟩⟩
  case round =>
    obtain ⟨n, rfl, hway⟩ := hrel
    rcases hway with ⟨hi, hv⟩ | ⟨hi, hv⟩ | ⟨hi, hv⟩ | ⟨hi, hv⟩
    · subst hi
      subst hv
      have hf : (0 : Int) ≤ 0 ∧ (0 : Int) ≤ 9223372036854775807 := by omega
      rcases far_ways a x 0 with ⟨h1, ⟨h2, ⟨h3, g⟩ | ⟨h3, g⟩⟩ | ⟨h2, ⟨h3, g⟩ | ⟨h3, g⟩⟩⟩ | ⟨h1, ⟨h2, ⟨h3, g⟩ | ⟨h3, g⟩⟩ | ⟨h2, ⟨h3, g⟩ | ⟨h3, g⟩⟩⟩
      all_goals
        have G := Lib.hid g
        clear g
        have E1 : x ≤ a → IntKind.u64.wrap (IntKind.u64.wrap a - IntKind.u64.wrap x) = a - x := fun h => u64_sub _ _ (by assumption) (by assumption) h
        have E2 : a < x → IntKind.u64.wrap (IntKind.u64.wrap x - IntKind.u64.wrap a) = x - a := fun h => u64_sub _ _ (by assumption) (by assumption) (by omega)
        first | (have E3 := E1 h1; have hmin : (if x < a then x else a) = x := (by split <;> omega); clear E1 E2; go_wp2; go_quiet (fail); go_wp2) | (have E3 := E2 h1; clear E1 E2; go_wp2; go_quiet (fail); go_wp2)
        all_goals
         go_roundw
         case rel => exact ⟨_, rfl, .inr (.inl ⟨rfl, by rw [G.out]; first | done | rfl | (exfalso; omega)⟩)⟩
         case measure => simp [intOf]
    · subst hi
      subst hv
      obtain ⟨f, hfe⟩ : ∃ f, f = (mx 0 (farC a x)) := ⟨_, rfl⟩
      rw [← hfe]
      have hf : 0 ≤ f ∧ f ≤ 9223372036854775807 := by rw [hfe]; exact farTo_nonneg a b c x y z 1
      have HF := Lib.hid hfe
      clear hfe
      rcases far_ways b y f with ⟨h1, ⟨h2, ⟨h3, g⟩ | ⟨h3, g⟩⟩ | ⟨h2, ⟨h3, g⟩ | ⟨h3, g⟩⟩⟩ | ⟨h1, ⟨h2, ⟨h3, g⟩ | ⟨h3, g⟩⟩ | ⟨h2, ⟨h3, g⟩ | ⟨h3, g⟩⟩⟩
      all_goals
        have G := Lib.hid g
        clear g
        have E1 : y ≤ b → IntKind.u64.wrap (IntKind.u64.wrap b - IntKind.u64.wrap y) = b - y := fun h => u64_sub _ _ (by assumption) (by assumption) h
        have E2 : b < y → IntKind.u64.wrap (IntKind.u64.wrap y - IntKind.u64.wrap b) = y - b := fun h => u64_sub _ _ (by assumption) (by assumption) (by omega)
        first | (have E3 := E1 h1; have hmin : (if y < b then y else b) = y := (by split <;> omega); clear E1 E2; go_wp2; go_quiet (fail); go_wp2) | (have E3 := E2 h1; clear E1 E2; go_wp2; go_quiet (fail); go_wp2)
        all_goals
         go_roundw
         case rel => exact ⟨_, rfl, .inr (.inr (.inl ⟨rfl, by rw [← HF.out]; rw [G.out]; first | done | rfl | (exfalso; omega)⟩))⟩
         case measure => simp [intOf]
    · subst hi
      subst hv
      obtain ⟨f, hfe⟩ : ∃ f, f = (mx (mx 0 (farC a x)) (farC b y)) := ⟨_, rfl⟩
      rw [← hfe]
      have hf : 0 ≤ f ∧ f ≤ 9223372036854775807 := by rw [hfe]; exact farTo_nonneg a b c x y z 2
      have HF := Lib.hid hfe
      clear hfe
      rcases far_ways c z f with ⟨h1, ⟨h2, ⟨h3, g⟩ | ⟨h3, g⟩⟩ | ⟨h2, ⟨h3, g⟩ | ⟨h3, g⟩⟩⟩ | ⟨h1, ⟨h2, ⟨h3, g⟩ | ⟨h3, g⟩⟩ | ⟨h2, ⟨h3, g⟩ | ⟨h3, g⟩⟩⟩
      all_goals
        have G := Lib.hid g
        clear g
        have E1 : z ≤ c → IntKind.u64.wrap (IntKind.u64.wrap c - IntKind.u64.wrap z) = c - z := fun h => u64_sub _ _ (by assumption) (by assumption) h
        have E2 : c < z → IntKind.u64.wrap (IntKind.u64.wrap z - IntKind.u64.wrap c) = z - c := fun h => u64_sub _ _ (by assumption) (by assumption) (by omega)
        first | (have E3 := E1 h1; have hmin : (if z < c then z else c) = z := (by split <;> omega); clear E1 E2; go_wp2; go_quiet (fail); go_wp2) | (have E3 := E2 h1; clear E1 E2; go_wp2; go_quiet (fail); go_wp2)
        all_goals
         go_roundw
         case rel => exact ⟨_, rfl, .inr (.inr (.inr ⟨rfl, by rw [← HF.out]; rw [G.out]; first | done | rfl | (exfalso; omega)⟩))⟩
         case measure => simp [intOf]
    · subst hi
      subst hv
      go_wp2
      go_ret
      exact ⟨rfl, by (repeat (first | with_reducible exact Below.refl _ _ | with_reducible assumption | with_reducible refine below_drewN ?_ _ | with_reducible refine Below.alloc ?_ (by first | exact Nat.le_refl _ | (simp; done) | (simp; omega) | omega) _ | with_reducible refine Below.setCell ?_ (by first | exact Nat.le_refl _ | (simp; done) | (simp; omega) | omega) _ | with_reducible refine Below.trans ?_ (Below.mono (by with_reducible assumption) (by first | exact Nat.le_refl _ | (simp; done) | (simp; omega) | omega))))⟩

set_option maxHeartbeats 4000000 in
theorem refFar_any (a b c x y z : Int) (w : World) (ha : in64 a) (hb : in64 b) (hc : in64 c) (hx : in64 x) (hy : in64 y) (hz : in64 z) :
    Calls Try.prog 18 #[.agg #[.int .i64 a, .int .i64 b, .int .i64 c], .agg #[.int .i64 x, .int .i64 y, .int .i64 z]] w fun e w' => e = .returned (.int .i64 (farTo a b c x y z 3)) ∧ Below w.heap.size w w' := by
  go_enter Try.func18, Try.ntmps18
  go_wp2
  go_loopw [5, 6] (fun f i wr => FarRel a b c x y z w f i wr) (fun _ i _ => 3 - (intOf i).toNat)
  case atStart => exact ⟨0, rfl, .inl ⟨rfl, rfl⟩⟩
  case round =>
    obtain ⟨n, rfl, hway⟩ := hrel
    rcases hway with ⟨hi, hv⟩ | ⟨hi, hv⟩ | ⟨hi, hv⟩ | ⟨hi, hv⟩
    · subst hi
      subst hv
      have hf : (0 : Int) ≤ 0 ∧ (0 : Int) ≤ 9223372036854775807 := by omega
      rcases far_ways a x 0 with ⟨h1, ⟨h2, ⟨h3, g⟩ | ⟨h3, g⟩⟩ | ⟨h2, ⟨h3, g⟩ | ⟨h3, g⟩⟩⟩ | ⟨h1, ⟨h2, ⟨h3, g⟩ | ⟨h3, g⟩⟩ | ⟨h2, ⟨h3, g⟩ | ⟨h3, g⟩⟩⟩
      all_goals
        have G := Lib.hid g
        clear g
        have E1 : x ≤ a → IntKind.u64.wrap (IntKind.u64.wrap a - IntKind.u64.wrap x) = a - x := fun h => u64_sub _ _ (by assumption) (by assumption) h
        have E2 : a < x → IntKind.u64.wrap (IntKind.u64.wrap x - IntKind.u64.wrap a) = x - a := fun h => u64_sub _ _ (by assumption) (by assumption) (by omega)
        first | (have E3 := E1 h1; have hmin : (if x < a then x else a) = x := (by split <;> omega); clear E1 E2; go_wp2; go_quiet (fail); go_wp2) | (have E3 := E2 h1; clear E1 E2; go_wp2; go_quiet (fail); go_wp2)
        all_goals
         go_roundw
         case rel => exact ⟨_, rfl, .inr (.inl ⟨rfl, by rw [G.out]; first | done | rfl | (exfalso; omega)⟩)⟩
         case measure => simp [intOf]
    · subst hi
      subst hv
      obtain ⟨f, hfe⟩ : ∃ f, f = (mx 0 (farC a x)) := ⟨_, rfl⟩
      rw [← hfe]
      have hf : 0 ≤ f ∧ f ≤ 9223372036854775807 := by rw [hfe]; exact farTo_nonneg a b c x y z 1
      have HF := Lib.hid hfe
      clear hfe
      rcases far_ways b y f with ⟨h1, ⟨h2, ⟨h3, g⟩ | ⟨h3, g⟩⟩ | ⟨h2, ⟨h3, g⟩ | ⟨h3, g⟩⟩⟩ | ⟨h1, ⟨h2, ⟨h3, g⟩ | ⟨h3, g⟩⟩ | ⟨h2, ⟨h3, g⟩ | ⟨h3, g⟩⟩⟩
      all_goals
        have G := Lib.hid g
        clear g
        have E1 : y ≤ b → IntKind.u64.wrap (IntKind.u64.wrap b - IntKind.u64.wrap y) = b - y := fun h => u64_sub _ _ (by assumption) (by assumption) h
        have E2 : b < y → IntKind.u64.wrap (IntKind.u64.wrap y - IntKind.u64.wrap b) = y - b := fun h => u64_sub _ _ (by assumption) (by assumption) (by omega)
        first | (have E3 := E1 h1; have hmin : (if y < b then y else b) = y := (by split <;> omega); clear E1 E2; go_wp2; go_quiet (fail); go_wp2) | (have E3 := E2 h1; clear E1 E2; go_wp2; go_quiet (fail); go_wp2)
        all_goals
         go_roundw
         case rel => exact ⟨_, rfl, .inr (.inr (.inl ⟨rfl, by rw [← HF.out]; rw [G.out]; first | done | rfl | (exfalso; omega)⟩))⟩
         case measure => simp [intOf]
    · subst hi
      subst hv
      obtain ⟨f, hfe⟩ : ∃ f, f = (mx (mx 0 (farC a x)) (farC b y)) := ⟨_, rfl⟩
      rw [← hfe]
      have hf : 0 ≤ f ∧ f ≤ 9223372036854775807 := by rw [hfe]; exact farTo_nonneg a b c x y z 2
      have HF := Lib.hid hfe
      clear hfe
      rcases far_ways c z f with ⟨h1, ⟨h2, ⟨h3, g⟩ | ⟨h3, g⟩⟩ | ⟨h2, ⟨h3, g⟩ | ⟨h3, g⟩⟩⟩ | ⟨h1, ⟨h2, ⟨h3, g⟩ | ⟨h3, g⟩⟩ | ⟨h2, ⟨h3, g⟩ | ⟨h3, g⟩⟩⟩
      all_goals
        have G := Lib.hid g
        clear g
        have E1 : z ≤ c → IntKind.u64.wrap (IntKind.u64.wrap c - IntKind.u64.wrap z) = c - z := fun h => u64_sub _ _ (by assumption) (by assumption) h
        have E2 : c < z → IntKind.u64.wrap (IntKind.u64.wrap z - IntKind.u64.wrap c) = z - c := fun h => u64_sub _ _ (by assumption) (by assumption) (by omega)
        first | (have E3 := E1 h1; have hmin : (if z < c then z else c) = z := (by split <;> omega); clear E1 E2; go_wp2; go_quiet (fail); go_wp2) | (have E3 := E2 h1; clear E1 E2; go_wp2; go_quiet (fail); go_wp2)
        all_goals
         go_roundw
         case rel => exact ⟨_, rfl, .inr (.inr (.inr ⟨rfl, by rw [← HF.out]; rw [G.out]; first | done | rfl | (exfalso; omega)⟩))⟩
         case measure => simp [intOf]
    · subst hi
      subst hv
      go_wp2
      go_ret
      exact ⟨rfl, by (repeat (first | with_reducible exact Below.refl _ _ | with_reducible assumption | with_reducible refine below_drewN ?_ _ | with_reducible refine Below.alloc ?_ (by first | exact Nat.le_refl _ | (simp; done) | (simp; omega) | omega) _ | with_reducible refine Below.setCell ?_ (by first | exact Nat.le_refl _ | (simp; done) | (simp; omega) | omega) _ | with_reducible refine Below.trans ?_ (Below.mono (by with_reducible assumption) (by first | exact Nat.le_refl _ | (simp; done) | (simp; omega) | omega))))⟩
end Go.Proofs.Ytppkbnajpeoaaaa
