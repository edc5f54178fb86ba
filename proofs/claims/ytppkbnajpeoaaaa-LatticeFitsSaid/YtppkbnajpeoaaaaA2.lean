/- The closures of Snap and Real, 'each', Snap and Real: plain facts and walks. -/
import Derived.Test.YtppkbnajpeoaaaaA1
namespace Go.Proofs.Ytppkbnajpeoaaaa
open Go.RowKit

def snapX (s d : Int) : Int := (2 * d + s) / (2 * s)
theorem snapX_div (s d : Int) (hs : 1 ≤ s) : snapX s d = d / s + (if s ≤ 2 * (d % s) then 1 else 0) := by
  unfold snapX
  have h1 := Int.emod_nonneg d (show s ≠ 0 by omega)
  have h2 := Int.emod_lt_of_pos d (show 0 < s by omega)
  have h3 := Int.mul_ediv_add_emod d s
  have key : ∀ q r : Int, r + (2 * s) * q = 2 * d + s → 0 ≤ r → r < 2 * s → (2 * d + s) / (2 * s) = q :=
    fun q r a b c => ((Int.ediv_emod_unique (by omega)).2 ⟨a, b, c⟩).1
  split
  · refine key _ (2 * (d % s) - s) ?_ (by omega) (by omega)
    have : 2 * s * (d / s + 1) = 2 * (s * (d / s)) + 2 * s := by rw [Int.mul_add, Int.mul_assoc]; omega
    omega
  · refine key _ (2 * (d % s) + s) ?_ (by omega) (by omega)
    have : 2 * s * (d / s + 0) = 2 * (s * (d / s)) := by rw [Int.add_zero, Int.mul_assoc]
    omega
theorem tdiv_pos (s d : Int) (hd : 0 ≤ d) : d.tdiv s = d / s ∧ d.tmod s = d % s :=
  ⟨Int.tdiv_eq_ediv_of_nonneg hd, Int.tmod_eq_emod_of_nonneg hd⟩
theorem tdiv_neg (s d : Int) (hs : 1 ≤ s) (hd : d < 0) : ((-s < d.tmod s ∧ d.tmod s < 0) ∧ d / s = d.tdiv s - 1 ∧ d % s = d.tmod s + s) ∨ (d.tmod s = 0 ∧ d / s = d.tdiv s ∧ d % s = d.tmod s) := by
  have h4 := Int.mul_tdiv_add_tmod d s
  have h5 : -s < d.tmod s := by have := Int.lt_tmod_of_pos d (show 0 < s by omega); omega
  have h6 : d.tmod s ≤ 0 := by
    have : d.tmod s = -((-d).tmod s) := by rw [Int.neg_tmod, Int.neg_neg]
    have := Int.tmod_nonneg s (show 0 ≤ -d by omega)
    omega
  by_cases h : d.tmod s < 0
  · left
    refine ⟨⟨h5, h⟩, ?_⟩
    refine (Int.ediv_emod_unique (by omega)).2 ⟨?_, by omega, by omega⟩
    rw [Int.mul_sub]; omega
  · right
    refine ⟨by omega, ?_⟩
    refine (Int.ediv_emod_unique (by omega)).2 ⟨by omega, by omega, by omega⟩

def coOk (s lo r : Int) : Bool := inB 4611686018427387904 r && inB 1048576 (snapX s (r - lo))
def coX (s lo r : Int) : Int := if inB 4611686018427387904 r then snapX s (r - lo) else 0
theorem snapX_le (s d : Int) (hs : 1 ≤ s) (h1 : -4611687117939015680 ≤ d) (h2 : d ≤ 4611687117939015680) : -4611687117939015680 ≤ d / s ∧ d / s ≤ 4611687117939015680 ∧ 0 ≤ d % s ∧ d % s < s := by
  have h3 := Int.emod_nonneg d (show s ≠ 0 by omega)
  have h4 := Int.emod_lt_of_pos d (show 0 < s by omega)
  refine ⟨?_, ?_, h3, h4⟩
  · refine (Int.le_ediv_iff_mul_le (by omega)).2 ?_
    have : 4611687117939015680 * 1 ≤ 4611687117939015680 * s := Int.mul_le_mul_of_nonneg_left hs (by omega)
    omega
  · have : d / s < 4611687117939015680 + 1 := Int.ediv_lt_of_lt_mul (by omega) (by
      have : 4611687117939015681 * 1 ≤ 4611687117939015681 * s := Int.mul_le_mul_of_nonneg_left hs (by omega)
      omega)
    omega

set_option maxHeartbeats 400000 in
theorem snap1_out (k : Nat) (hk : k < 3) (rb lb : Nat) (r lo s : Int) (w : World)
    (hr : w.cell? ⟨rb, k, none⟩ = some (.int .i64 r)) (_hl : w.cell? ⟨lb, 1 + k, none⟩ = some (.int .i64 lo)) (_hs : w.cell? ⟨lb, 0, none⟩ = some (.int .i64 s))
    (ho : inB 4611686018427387904 r = false) :
    Calls Try.prog 24 #[.int .i64 (k : Int), .pointer (some ⟨rb, 0, none⟩), .pointer (some ⟨lb, 0, none⟩)] w fun e w' => e = .returned (.tuple #[.int .i64 0, .bool false]) ∧ ∃ n, w' = w.drewN n := by
  have ho' : r < -4611686018427387904 ∨ (-4611686018427387904 ≤ r ∧ 4611686018427387904 < r) := by simp [inB] at ho; omega
  clear ho
  rcases ho' with h1 | ⟨h1, h2⟩
  all_goals
    go_enter Try.func24, Try.ntmps24
    go_wp2
    go_ret2
    exact ⟨rfl, 0, rfl⟩

theorem snap_ways (s d : Int) (hs : 1 ≤ s) (h1 : -4611687117939015680 ≤ d) (h2 : d ≤ 4611687117939015680) :
    -s < d.tmod s ∧ d.tmod s < s ∧ -4611687117939015681 ≤ d.tdiv s ∧ d.tdiv s ≤ 4611687117939015681 ∧
    ((0 ≤ d.tmod s ∧ s ≤ 2 * d.tmod s ∧ snapX s d = d.tdiv s + 1) ∨ (0 ≤ d.tmod s ∧ 2 * d.tmod s < s ∧ snapX s d = d.tdiv s) ∨
     (d.tmod s < 0 ∧ s ≤ 2 * (d.tmod s + s) ∧ snapX s d = d.tdiv s) ∨ (d.tmod s < 0 ∧ 2 * (d.tmod s + s) < s ∧ snapX s d = d.tdiv s - 1)) := by
  have b := snapX_le s d hs h1 h2
  have e := snapX_div s d hs
  by_cases hd : 0 ≤ d
  · have t := tdiv_pos s d hd
    rw [t.1, t.2]
    by_cases g : s ≤ 2 * (d % s)
    · rw [if_pos g] at e; exact ⟨by omega, by omega, by omega, by omega, .inl ⟨by omega, g, e⟩⟩
    · rw [if_neg g] at e; exact ⟨by omega, by omega, by omega, by omega, .inr (.inl ⟨by omega, by omega, by omega⟩)⟩
  · rcases tdiv_neg s d hs (by omega) with ⟨n, t1, t2⟩ | ⟨n, t1, t2⟩
    · by_cases g : s ≤ 2 * (d % s)
      · rw [if_pos g] at e; exact ⟨by omega, by omega, by omega, by omega, .inr (.inr (.inl ⟨by omega, by omega, by omega⟩))⟩
      · rw [if_neg g] at e; exact ⟨by omega, by omega, by omega, by omega, .inr (.inr (.inr ⟨by omega, by omega, by omega⟩))⟩
    · by_cases g : s ≤ 2 * (d % s)
      · rw [if_pos g] at e; exact ⟨by omega, by omega, by omega, by omega, .inl ⟨by omega, by omega, by omega⟩⟩
      · rw [if_neg g] at e; exact ⟨by omega, by omega, by omega, by omega, .inr (.inl ⟨by omega, by omega, by omega⟩)⟩

theorem ret_ib {a b : Int} {x y : Bool} (h : a = b) (g : x = y) : Ending.returned (.tuple #[.int .i64 a, .bool x]) = .returned (.tuple #[.int .i64 b, .bool y]) := by rw [h, g]

set_option maxHeartbeats 400000 in
theorem snap1_in (k : Nat) (hk : k < 3) (rb lb : Nat) (r lo s : Int) (w : World)
    (hr : w.cell? ⟨rb, k, none⟩ = some (.int .i64 r)) (hl : w.cell? ⟨lb, 1 + k, none⟩ = some (.int .i64 lo)) (hs : w.cell? ⟨lb, 0, none⟩ = some (.int .i64 s))
    (h1 : -4611686018427387904 ≤ r) (h2 : r ≤ 4611686018427387904) (h3 : -1099511627776 ≤ lo) (h4 : lo ≤ 1099511627776) (h5 : 1 ≤ s) (h6 : s ≤ 1048576) :
    Calls Try.prog 24 #[.int .i64 (k : Int), .pointer (some ⟨rb, 0, none⟩), .pointer (some ⟨lb, 0, none⟩)] w fun e w' => e = .returned (.tuple #[.int .i64 (snapX s (r - lo)), .bool (inB 1048576 (snapX s (r - lo)))]) ∧ ∃ n, w' = w.drewN n := by
  obtain ⟨t1, t2, q1, q2, hw⟩ := snap_ways s (r - lo) h5 (by omega) (by omega)
  rcases hw with ⟨g1, g2, g3⟩ | ⟨g1, g2, g3⟩ | ⟨g1, g2, g3⟩ | ⟨g1, g2, g3⟩
  all_goals
    have G3 := Lib.hid g3
    clear g3
    go_enter Try.func24, Try.ntmps24
    go_wp2
    go_quiet (fail)
    go_wp2_with fail
    try (go_quiet (fail); go_wp2_with fail)
    refine (on_any _ _).mono ?_
    rintro e w' ⟨rfl, rfl⟩
    go_wp2
    go_ret2
    exact ⟨ret_ib G3.out.symm (by rw [G3.out]; rfl), _, rfl⟩
end Go.Proofs.Ytppkbnajpeoaaaa
