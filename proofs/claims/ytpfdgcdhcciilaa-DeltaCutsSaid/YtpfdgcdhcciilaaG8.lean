/- The reference's Decode: walk. -/
import Derived.Test.YtpfdgcdhcciilaaG7
namespace Go.Proofs.Ytpfdgcdhcciilaa
open Go.RowKit

theorem told_n (A : Option Addr) (c n : Nat) (xs : List Nat) (w : World) (hB : Byt w A xs) (hn : xs.length = n) (hl : n ≤ 4) :
    Calls Try.prog 25 #[.slice A n c] w fun e w' => e = .returned (.int .i64 (valOf xs : Nat)) ∧ w = w' := by subst hn; exact told_any A c xs w hB hl
theorem refSum_n (A : Option Addr) (c n : Nat) (xs : List Nat) (w : World) (hB : Byt w A xs) (hn : xs.length = n) (hl : n ≤ 65536) :
    Calls Try.prog 24 #[.slice A n c] w fun e w' => e = .returned (.int .u32 (sumOf xs : Nat)) ∧ w = w' := by subst hn; exact refSum_any A c xs w hB (by unfold maxLen; omega)
theorem step_append_bytN {w : World} {ops : Array Oper} {o : Oper} {a : Act} {K : Act → World → Prop} {Q : Exit → Act → World → Prop} {E : Prop} (hgd : o.guard = none) (s x : Operand)
    (ho : o.op = .call { callee := .builtin .append, args := #[s, x], argTypes := #[25, 25] })
    (base : Nat) (v : Value) (n : Nat) (xs : List Value) (hs : a.eval s = v) (hown : w.ownsRow base 5 1 v n xs)
    (A : Option Addr) (m c : Nat) (ys : List Nat) (hx : a.eval x = .slice A m c) (hm : m = ys.length) (hB : Byt w A ys)
    (h63 : n + ys.length ≤ 140737488355328) (hbase : base ≤ w.heap.size)
    (h : ∀ v' w', w'.ownsRow base 5 1 v' (n + ys.length) (xs ++ bys ys) → w.grownBy w' v.ownBlock → (v'.ownBlock = v.ownBlock ∨ v'.ownBlock = some w.heap.size) → K (a.put o.dst v') w') :
    if Region.wanted o (yielded ops a.tmps) = true then Oper.wp Try.prog o a w K Q else E := by
  subst hm
  exact step_append_byt hgd s x ho base v n xs hs hown A c ys hx hB h63 hbase h
def RefPost (xs : List Nat) (w : World) (e : Ending) (w' : World) : Prop :=
  ∃ v rows, e = .returned (.tuple #[v, .int .i64 (dec xs).2]) ∧ w'.ownsRow w.heap.size 46 3 v (dec xs).1.length rows ∧ Row3 (ownD w' w.heap.size) (dec xs).1 rows ∧ Below w.heap.size w w'
theorem refPost_no {xs : List Nat} {w w' : World} {k : Int} (h : dec xs = ([], k)) (hb : Below w.heap.size w w') : RefPost xs w (.returned (.tuple #[.slice none 0 0, .int .i64 k])) w' := by
  unfold RefPost
  rw [h]
  exact ⟨_, [], rfl, World.ownsRow_nil _ _ _ _, rfl, hb⟩
def RefRel (xs : List Nat) (w : World) (v at' i : Value) (wr : World) : Prop :=
  ∃ (p : Nat) (done : List Chg) (rows : List Value), i = .int .i64 (done.length : Nat) ∧ at' = .int .i64 (p : Nat) ∧ p ≤ xs.length ∧ done.length ≤ countOf xs ∧ done.length ≤ p ∧
    parse (countOf xs) (xs.drop 2) = pre done (parse (countOf xs - done.length) (xs.drop p)) ∧
    wr.ownsRow w.heap.size 46 3 v done.length rows ∧ Row3 (ownD wr w.heap.size) done rows ∧ Below w.heap.size w wr

set_option maxRecDepth 100000 in
set_option maxHeartbeats 1000000 in
theorem refDecode_short (A : Option Addr) (c : Nat) (xs : List Nat) (w : World) (h2 : xs.length < 2) :
    Calls Try.prog 17 #[.slice A xs.length c] w (RefPost xs w) := by
  have HS := Lib.hid (dec_short h2)
  have g1 : decide ((4194304 : Int) < (xs.length : Int)) = false := by rw [decide_eq_false_iff_not]; omega
  go_enter Try.func17, Try.ntmps17
  go_wp2
  go_ret2
  exact refPost_no HS.out (Below.refl _ _)

set_option maxRecDepth 100000 in
set_option maxHeartbeats 4000000 in
theorem refDecode_long (b off cap : Nat) (xs : List Nat) (w : World) (h2 : 2 ≤ xs.length) (hl : xs.length ≤ 700) (hcap : xs.length ≤ cap) (hB : Byt w (some ⟨b, off, none⟩) xs) (hb0 : b < w.heap.size) :
    Calls Try.prog 17 #[.slice (some ⟨b, off, none⟩) xs.length cap] w (RefPost xs w) := by
  have g1 : decide ((4194304 : Int) < (xs.length : Int)) = false := by rw [decide_eq_false_iff_not]; omega
  have HB := Lib.hid hB
  have CB := Lib.hid (valOf_lt xs hB.1 2)
  have TN : Hid (∀ W, Below w.heap.size w W → Calls Try.prog 25 #[.slice (some ⟨b, off, none⟩) 2 cap] W fun e w' => e = .returned (.int .i64 (countOf xs : Nat)) ∧ W = w') :=
    fun W hW => told_n _ cap 2 (xs.take 2) W ((HB.out.below hW).take 2) (by simp; omega) (by omega)
  have hN : countOf xs < 65536 := CB.out
  clear hB
  go_enter Try.func17, Try.ntmps17
  go_wp2
  clear g1
  go_loopw [4, 5, 6] (fun v a i wr => RefRel xs w v a i wr) (fun _ _ i _ => countOf xs - (intOf i).toNat)
  case atStart => exact ⟨2, [], [], rfl, rfl, by omega, by simp, by simp, (pre_nil _).symm, World.ownsRow_nil _ _ _ _, rfl, Below.refl _ _⟩
  case round =>
    obtain ⟨p, done, rows, rfl, rfl, hp, hdN, hdp, hP, hown, hrow, hb⟩ := hrel
    obtain ⟨wo, rfl⟩ : ∃ wo : World, wo = wr := ⟨_, rfl⟩
    by_cases hlt : done.length < countOf xs
    · have HP := Lib.hid hP
      have HOWN := Lib.hid hown
      have HROW := Lib.hid hrow
      have HBL := Lib.hid hb
      clear hP hown hrow hb
      by_cases h9 : xs.length < p + 9
      · have HD : Hid (dec xs = ([], 4)) := dec_none (by omega) (parse_stop HP.out hlt (by omega))
        have h90 : decide ((xs.length : Int) < (p : Int) + 9) = true := by rw [decide_eq_true_iff]; omega
        go_wp2_with fail
        refine (TN.out _ HBL.out).mono ?_
        rintro e w3 ⟨rfl, rfl⟩
        go_wp2
        go_ret2
        exact refPost_no HD.out HBL.out
      · have h90 : decide ((xs.length : Int) < (p : Int) + 9) = false := by rw [decide_eq_false_iff_not]; omega
        go_wp2_with fail
        refine (TN.out _ HBL.out).mono ?_
        rintro e w3 ⟨rfl, rfl⟩
        have V1 : Hid (∀ W, Below w.heap.size w W → Calls Try.prog 25 #[.slice (some ⟨b, off + (p + 5), none⟩) 4 (cap - (p + 5))] W fun e w' => e = .returned (.int .i64 (lenAt (xs.drop p) : Nat)) ∧ W = w') := by
          intro W hW
          have := told_n _ (cap - (p + 5)) 4 _ W ((HB.out.below hW).sub (p + 5) 4 (by omega)) (by simp; omega) (by omega)
          simpa only [lenAt, List.drop_drop, Nat.add_assoc] using this
        have V2 : Hid (∀ c W, Below w.heap.size w W → Calls Try.prog 25 #[.slice (some ⟨b, off + (p + 1), none⟩) 4 c] W fun e w' => e = .returned (.int .i64 (oldAt (xs.drop p) : Nat)) ∧ W = w') := by
          intro c W hW
          have := told_n _ c 4 _ W ((HB.out.below hW).sub (p + 1) 4 (by omega)) (by simp; omega) (by omega)
          simpa only [oldAt, List.drop_drop, Nat.add_assoc] using this
        have hn32 : lenAt (xs.drop p) < 4294967296 := valOf_small _ (fun x hx => HB.out.1 x (List.mem_of_mem_drop (List.mem_of_mem_drop hx))) 4 (by omega)
        have ho32 : oldAt (xs.drop p) < 4294967296 := valOf_small _ (fun x hx => HB.out.1 x (List.mem_of_mem_drop (List.mem_of_mem_drop hx))) 4 (by omega)
        have HR : Hid (9 + lenAt (xs.drop p) ≤ xs.length - p → parse (countOf xs) (xs.drop 2) = pre (done ++ [chgAt (xs.drop p)]) (parse (countOf xs - (done ++ [chgAt (xs.drop p)]).length) (xs.drop (p + (9 + lenAt (xs.drop p)))))) := parse_round HP.out hlt
        have HZ : Hid (xs.length - p < 9 + lenAt (xs.drop p) → parse (countOf xs) (xs.drop 2) = none) := fun h => parse_stop HP.out hlt (.inr h)
        have HC : Hid (chgAt (xs.drop p) = ⟨((xs.getD p 0 : Nat) : Int), oldAt (xs.drop p), ((xs.drop p).drop 9).take (lenAt (xs.drop p))⟩) := by
          show chgAt (xs.drop p) = _
          unfold chgAt
          simp [List.getD]
        have HBD : Hid (9 + lenAt (xs.drop p) ≤ xs.length - p → ∀ o, (cap = p + 9 ∨ o = off + (p + 9)) → Byt w (some ⟨b, o, none⟩) (((xs.drop p).drop 9).take (lenAt (xs.drop p)))) := by
          intro h o ho
          rw [List.drop_drop]
          rcases ho with hcp | rfl
          · rw [show lenAt (xs.drop p) = 0 by omega, List.take_zero]; exact Byt.nil _ _
          · exact HB.out.sub (p + 9) _ (by omega)
        have c0 : w.cell? ⟨b, off + p, none⟩ = some (.int .u8 ((xs.getD p 0 : Nat) : Int)) := by
          obtain ⟨b', off', e, hce⟩ := HB.out.2 (by omega)
          injection e with e
          injection e with e1 e2
          subst e1 e2
          exact hce p (by omega)
        have x0 := HB.out.lt p
        have B256 : Hid (∀ x ∈ ((xs.drop p).drop 9).take (lenAt (xs.drop p)), x < 256) := fun x hx => HB.out.1 x (List.mem_of_mem_drop (List.mem_of_mem_drop (List.mem_of_mem_take hx)))
        generalize lenAt (xs.drop p) = n at *
        generalize oldAt (xs.drop p) = old at *
        generalize xs.getD p 0 = y at *
        generalize hdt : ((xs.drop p).drop 9).take n = data at *
        have HDT := Lib.hid hdt
        clear hdt
        generalize chgAt (xs.drop p) = ch at *
        by_cases hnq : xs.length < p + 9 + n
        · have HD : Hid (dec xs = ([], 4)) := dec_none (by omega) (HZ.out (by omega))
          have h91 : decide ((xs.length : Int) < (p : Int) + 9 + (n : Int)) = true := by rw [decide_eq_true_iff]; omega
          go_wp2_with fail
          refine (V1.out _ HBL.out).mono ?_
          rintro e w4 ⟨rfl, rfl⟩
          go_wp2
          go_ret2
          exact refPost_no HD.out HBL.out
        · have h91 : decide ((xs.length : Int) < (p : Int) + 9 + (n : Int)) = false := by rw [decide_eq_false_iff_not]; omega
          have hlen : data.length = n := by rw [← HDT.out]; simp; omega
          have HLEN := Lib.hid hlen
          clear hlen
          go_wp2_with fail
          refine (V1.out _ HBL.out).mono ?_
          rintro e w4 ⟨rfl, rfl⟩
          go_wp2_with fail
          refine (V1.out _ HBL.out).mono ?_
          rintro e w4 ⟨rfl, rfl⟩
          have BD := Lib.hid (HBD.out (by omega))
          have hk : ∀ w', Below w.heap.size w w' → ∀ b o, b < w.heap.size → w'.cell? ⟨b, o, none⟩ = w.cell? ⟨b, o, none⟩ := fun w' h b o hb => h.cell (p := ⟨b, o, none⟩) hb
          have hbl5 := HBL.out
          have hb55 := Below.refl wo.heap.size wo
          obtain ⟨i0, hi0, hz0, hz1, hz2⟩ := info_parts chg46_info
          have HI := Lib.hid hi0
          have HZ0 := Lib.hid hz0
          have HZ1 := Lib.hid hz1
          have HZ2 := Lib.hid hz2
          clear hi0 hz0 hz1 hz2
          have SZ1 : Hid (done.length + 1 ≤ maxLen) := by show done.length + 1 ≤ maxLen; unfold maxLen; omega
          have SZ2 : Hid ((done.length + 1) * 40 ≤ 140737488355328) := by show (done.length + 1) * 40 ≤ 140737488355328; omega
          have SZ3 : Hid (∀ m, m = n → m = data.length) := fun m h => by rw [HLEN.out, h]
          have SZ4 : Hid (0 + data.length ≤ 140737488355328) := by show 0 + data.length ≤ 140737488355328; rw [HLEN.out]; omega
          have SZ5 : Hid (∀ m, (m = n ∨ m = p + 9 + n - (p + 9)) → m = data.length) := by intro m h; rw [HLEN.out]; omega
          have j1 : (0 : Int) ≤ (p : Int) := by omega
          have j2 : (p : Int) < (xs.length : Int) := by omega
          have j3 : (p : Int) + 1 ≤ (p : Int) + 5 := by omega
          have j4 : (p : Int) + 5 ≤ (cap : Int) := by omega
          have j5 : (0 : Int) ≤ (p : Int) + 1 := by omega
          have j6 : (0 : Int) ≤ (p : Int) + 9 := by omega
          have j7 : (p : Int) + 9 ≤ (p : Int) + 9 + (n : Int) := by omega
          have j8 : (p : Int) + 9 + (n : Int) ≤ (cap : Int) := by omega
          have j9 : ((p : Int) + 1).toNat = p + 1 := by omega
          have j10 : ((p : Int) + 5).toNat = p + 5 := by omega
          have j11 : ((p : Int) + 9).toNat = p + 9 := by omega
          have j12 : ((p : Int) + 9 + (n : Int)).toNat = p + 9 + n := by omega
          have j13 : ¬ (cap = p + 1) := by omega
          have k1 : IntKind.i64.wrap ((p : Int) + 1) = (p : Int) + 1 := IntWalk.i64_in _ ⟨by omega, by omega⟩
          have k2 : IntKind.i64.wrap ((p : Int) + 5) = (p : Int) + 5 := IntWalk.i64_in _ ⟨by omega, by omega⟩
          have k3 : IntKind.i64.wrap ((p : Int) + 9) = (p : Int) + 9 := IntWalk.i64_in _ ⟨by omega, by omega⟩
          have k4 : IntKind.i64.wrap ((p : Int) + 9 + (n : Int)) = (p : Int) + 9 + (n : Int) := IntWalk.i64_in _ ⟨by omega, by omega⟩
          have HRR := Lib.hid (HR.out (by omega))
          have hpn : p + (9 + n) ≤ xs.length := by omega
          clear HR
          by_cases hc9 : cap = p + 9
          · obtain rfl : n = 0 := by omega
            have SZA : Hid (0 = data.length) := HLEN.out.symm
            have BD0 : Hid (∀ o, Byt w (some ⟨b, o, none⟩) data) := fun o => BD.out o (.inl hc9)
            clear BD HBD SZ5 SZ3 HZ hnq
            subst hc9
            go_wp2_with fail
            go_region_held3 (fun w' => Below w.heap.size w w') ((repeat' (first | with_reducible assumption | with_reducible exact Below.refl _ _ | with_reducible refine Below.drew ?_ | with_reducible refine below_alloc ?_ _ | with_reducible refine below_set ?_ ?_ _ | with_reducible refine below_then ?_ (by with_reducible assumption) | with_reducible exact Nat.le_refl _ | with_reducible exact Below.size (by with_reducible assumption))))
              (first
                | (go_at_call 25; ((with_reducible refine (V2.out _ _ (by (repeat' (first | with_reducible assumption | with_reducible exact Below.refl _ _ | with_reducible refine Below.drew ?_ | with_reducible refine below_alloc ?_ _ | with_reducible refine below_set ?_ ?_ _ | with_reducible refine below_then ?_ (by with_reducible assumption) | with_reducible exact Nat.le_refl _ | with_reducible exact Below.size (by with_reducible assumption))))).mono ?_); rintro e w6 ⟨rfl, rfl⟩))
                | (refine step_append_bytN (by rfl) _ _ (by rfl) wo.heap.size _ 0 [] (by rfl) (own_below (w := wo.alloc (.cells #[] 5)) (own_empty (w := wo) (Nat.le_refl _)) (by (repeat' (first | with_reducible assumption | with_reducible exact Below.refl _ _ | with_reducible refine Below.drew ?_ | with_reducible refine below_alloc ?_ _ | with_reducible refine below_set ?_ ?_ _ | with_reducible refine below_then ?_ (by with_reducible assumption) | with_reducible exact Nat.le_refl _ | with_reducible exact Below.size (by with_reducible assumption))))) _ _ _ data (by rfl) SZA.out ((BD0.out _).below (by (repeat' (first | with_reducible assumption | with_reducible exact Below.refl _ _ | with_reducible refine Below.drew ?_ | with_reducible refine below_alloc ?_ _ | with_reducible refine below_set ?_ ?_ _ | with_reducible refine below_then ?_ (by with_reducible assumption) | with_reducible exact Nat.le_refl _ | with_reducible exact Below.size (by with_reducible assumption))))) SZ4.out (by simp) ?_; intro v6 w6 own6 hg6 _; have own6' : w6.ownsRow wo.heap.size 5 1 v6 data.length (bys data) := (by simpa using own6); obtain ⟨A6, c6, rfl, _⟩ := Byt.of_own own6' B256.out; have hb6 : Below wo.heap.size wo w6 := app_below (w0 := wo) (by (repeat' (first | with_reducible assumption | with_reducible exact Below.refl _ _ | with_reducible refine Below.drew ?_ | with_reducible refine below_alloc ?_ _ | with_reducible refine below_set ?_ ?_ _ | with_reducible refine below_then ?_ (by with_reducible assumption) | with_reducible exact Nat.le_refl _ | with_reducible exact Below.size (by with_reducible assumption)))) (own_below (w := wo.alloc (.cells #[] 5)) (own_empty (w := wo) (Nat.le_refl _)) (by (repeat' (first | with_reducible assumption | with_reducible exact Below.refl _ _ | with_reducible refine Below.drew ?_ | with_reducible refine below_alloc ?_ _ | with_reducible refine below_set ?_ ?_ _ | with_reducible refine below_then ?_ (by with_reducible assumption) | with_reducible exact Nat.le_refl _ | with_reducible exact Below.size (by with_reducible assumption))))) hg6; have hb60 : Below w.heap.size w w6 := below_then hbl5 hb6)
                | (refine step_append_lies _ (by rfl) _ _ _ (by rfl) w.heap.size 46 i0 _ 3 40 Try.underlying22 HI.out HZ0.out HZ1.out HZ2.out rfl (by decide) _ done.length rows (by rfl) (own_below HOWN.out (by (repeat' (first | with_reducible assumption | with_reducible exact Below.refl _ _ | with_reducible refine Below.drew ?_ | with_reducible refine below_alloc ?_ _ | with_reducible refine below_set ?_ ?_ _ | with_reducible refine below_then ?_ (by with_reducible assumption) | with_reducible exact Nat.le_refl _ | with_reducible exact Below.size (by with_reducible assumption))))) ⟨w6.heap.size, 0, none⟩ 1 1 [.int .i64 (IntKind.i64.wrap (y : Int)), .int .u32 (IntKind.u32.wrap (old : Int)), .slice A6 data.length c6] (by rfl) rfl (news3 (heap_alloc_new _ _)) (by intro u hu; simp at hu; rcases hu with rfl | rfl | rfl <;> rfl) (by decide) SZ1.out SZ2.out (Nat.le_trans hb60.size (by simp)) _ rfl ?_; intro g cap8 w8 hown8 hgrow _ _; have hbn : Below w.heap.size w w8 := Below.grown (by (repeat' (first | with_reducible assumption | with_reducible exact Below.refl _ _ | with_reducible refine Below.drew ?_ | with_reducible refine below_alloc ?_ _ | with_reducible refine below_set ?_ ?_ _ | with_reducible refine below_then ?_ (by with_reducible assumption) | with_reducible exact Nat.le_refl _ | with_reducible exact Below.size (by with_reducible assumption)))) hgrow (Nat.le_trans hb60.size (by simp)) (fun k hk => (HOWN.out.lt k hk).1)))
            all_goals
              have hch := HC.out
              have ew1 : IntKind.i64.wrap (y : Int) = (y : Int) := IntWalk.i64_in _ ⟨by omega, by omega⟩
              have ew2 : IntKind.u32.wrap (old : Int) = (old : Int) := by rw [IntKind.wrap_u32]; omega
              rw [ew1, ew2] at hown8 hgrow
              have R8 : Row3 (ownD w8 w.heap.size) (done ++ [⟨(y : Int), old, data⟩]) (rows ++ [.int .i64 (y : Int), .int .u32 (old : Int), .slice A6 data.length c6]) := by
                refine Row3.snoc (c := ⟨(y : Int), old, data⟩) (HROW.out.mono (fun v l h => ⟨h.1, own_grown (own_below h.2 (by (repeat' (first | with_reducible assumption | with_reducible exact Below.refl _ _ | with_reducible refine Below.drew ?_ | with_reducible refine below_alloc ?_ _ | with_reducible refine below_set ?_ ?_ _ | with_reducible refine below_then ?_ (by with_reducible assumption) | with_reducible exact Nat.le_refl _ | with_reducible exact Below.size (by with_reducible assumption))))) (own_below HOWN.out (by (repeat' (first | with_reducible assumption | with_reducible exact Below.refl _ _ | with_reducible refine Below.drew ?_ | with_reducible refine below_alloc ?_ _ | with_reducible refine below_set ?_ ?_ _ | with_reducible refine below_then ?_ (by with_reducible assumption) | with_reducible exact Nat.le_refl _ | with_reducible exact Below.size (by with_reducible assumption))))) hgrow (by decide)⟩)) ho32 ⟨B256.out, own_grown (own_base (own_below own6' (by (repeat' (first | with_reducible assumption | with_reducible exact Below.refl _ _ | with_reducible refine Below.drew ?_ | with_reducible refine below_alloc ?_ _ | with_reducible refine below_set ?_ ?_ _ | with_reducible refine below_then ?_ (by with_reducible assumption) | with_reducible exact Nat.le_refl _ | with_reducible exact Below.size (by with_reducible assumption))))) HBL.out.size) (own_below HOWN.out (by (repeat' (first | with_reducible assumption | with_reducible exact Below.refl _ _ | with_reducible refine Below.drew ?_ | with_reducible refine below_alloc ?_ _ | with_reducible refine below_set ?_ ?_ _ | with_reducible refine below_then ?_ (by with_reducible assumption) | with_reducible exact Nat.le_refl _ | with_reducible exact Below.size (by with_reducible assumption))))) hgrow (by decide)⟩
              have HF : Hid (∃ rows, w8.ownsRow w.heap.size 46 3 (.slice (some ⟨g, 0, none⟩) (done.length + 1) cap8) (done.length + 1) rows ∧ Row3 (ownD w8 w.heap.size) (done ++ [ch]) rows ∧ Below w.heap.size w w8) := by
                rw [hch]
                exact ⟨_, hown8, R8, hbn⟩
              clear hown8 hgrow R8 hbn own6 own6' hg6 hb6 hb60 ew1 ew2 hch hbl5 hk hb55 k1 k2 k3 k4 j9 j10 j11 j12
              go_wp2
              obtain ⟨rows8, own8, R8, b8⟩ := HF.out
              refine ⟨⟨p + (9 + 0), done ++ [ch], rows8, by simp, by go_num, hpn, by simp; omega, by simp; omega, HRR.out, by simpa using own8, R8, b8⟩, by simp [intOf]; omega⟩
          · have SZB : Hid (n = data.length) := HLEN.out.symm
            have SZC : Hid (p + 9 + n - (p + 9) = data.length) := SZ5.out _ (.inr rfl)
            have BD1 : Hid (Byt w (some ⟨b, off + (p + 9), none⟩) data) := BD.out _ (.inr rfl)
            clear BD HBD SZ5 SZ3 HZ hnq
            go_wp2_with fail
            go_region_held3 (fun w' => Below w.heap.size w w') ((repeat' (first | with_reducible assumption | with_reducible exact Below.refl _ _ | with_reducible refine Below.drew ?_ | with_reducible refine below_alloc ?_ _ | with_reducible refine below_set ?_ ?_ _ | with_reducible refine below_then ?_ (by with_reducible assumption) | with_reducible exact Nat.le_refl _ | with_reducible exact Below.size (by with_reducible assumption))))
              (first
                | (go_at_call 25; ((with_reducible refine (V2.out _ _ (by (repeat' (first | with_reducible assumption | with_reducible exact Below.refl _ _ | with_reducible refine Below.drew ?_ | with_reducible refine below_alloc ?_ _ | with_reducible refine below_set ?_ ?_ _ | with_reducible refine below_then ?_ (by with_reducible assumption) | with_reducible exact Nat.le_refl _ | with_reducible exact Below.size (by with_reducible assumption))))).mono ?_); rintro e w6 ⟨rfl, rfl⟩))
                | (refine step_append_bytN (by rfl) _ _ (by rfl) wo.heap.size _ 0 [] (by rfl) (own_below (w := wo.alloc (.cells #[] 5)) (own_empty (w := wo) (Nat.le_refl _)) (by (repeat' (first | with_reducible assumption | with_reducible exact Below.refl _ _ | with_reducible refine Below.drew ?_ | with_reducible refine below_alloc ?_ _ | with_reducible refine below_set ?_ ?_ _ | with_reducible refine below_then ?_ (by with_reducible assumption) | with_reducible exact Nat.le_refl _ | with_reducible exact Below.size (by with_reducible assumption))))) _ _ _ data (by rfl) (by first | exact SZB.out | exact SZC.out) (BD1.out.below (by (repeat' (first | with_reducible assumption | with_reducible exact Below.refl _ _ | with_reducible refine Below.drew ?_ | with_reducible refine below_alloc ?_ _ | with_reducible refine below_set ?_ ?_ _ | with_reducible refine below_then ?_ (by with_reducible assumption) | with_reducible exact Nat.le_refl _ | with_reducible exact Below.size (by with_reducible assumption))))) SZ4.out (by simp) ?_; intro v6 w6 own6 hg6 _; have own6' : w6.ownsRow wo.heap.size 5 1 v6 data.length (bys data) := (by simpa using own6); obtain ⟨A6, c6, rfl, _⟩ := Byt.of_own own6' B256.out; have hb6 : Below wo.heap.size wo w6 := app_below (w0 := wo) (by (repeat' (first | with_reducible assumption | with_reducible exact Below.refl _ _ | with_reducible refine Below.drew ?_ | with_reducible refine below_alloc ?_ _ | with_reducible refine below_set ?_ ?_ _ | with_reducible refine below_then ?_ (by with_reducible assumption) | with_reducible exact Nat.le_refl _ | with_reducible exact Below.size (by with_reducible assumption)))) (own_below (w := wo.alloc (.cells #[] 5)) (own_empty (w := wo) (Nat.le_refl _)) (by (repeat' (first | with_reducible assumption | with_reducible exact Below.refl _ _ | with_reducible refine Below.drew ?_ | with_reducible refine below_alloc ?_ _ | with_reducible refine below_set ?_ ?_ _ | with_reducible refine below_then ?_ (by with_reducible assumption) | with_reducible exact Nat.le_refl _ | with_reducible exact Below.size (by with_reducible assumption))))) hg6; have hb60 : Below w.heap.size w w6 := below_then hbl5 hb6)
                | (refine step_append_lies _ (by rfl) _ _ _ (by rfl) w.heap.size 46 i0 _ 3 40 Try.underlying22 HI.out HZ0.out HZ1.out HZ2.out rfl (by decide) _ done.length rows (by rfl) (own_below HOWN.out (by (repeat' (first | with_reducible assumption | with_reducible exact Below.refl _ _ | with_reducible refine Below.drew ?_ | with_reducible refine below_alloc ?_ _ | with_reducible refine below_set ?_ ?_ _ | with_reducible refine below_then ?_ (by with_reducible assumption) | with_reducible exact Nat.le_refl _ | with_reducible exact Below.size (by with_reducible assumption))))) ⟨w6.heap.size, 0, none⟩ 1 1 [.int .i64 (IntKind.i64.wrap (y : Int)), .int .u32 (IntKind.u32.wrap (old : Int)), .slice A6 data.length c6] (by rfl) rfl (news3 (heap_alloc_new _ _)) (by intro u hu; simp at hu; rcases hu with rfl | rfl | rfl <;> rfl) (by decide) SZ1.out SZ2.out (Nat.le_trans hb60.size (by simp)) _ rfl ?_; intro g cap8 w8 hown8 hgrow _ _; have hbn : Below w.heap.size w w8 := Below.grown (by (repeat' (first | with_reducible assumption | with_reducible exact Below.refl _ _ | with_reducible refine Below.drew ?_ | with_reducible refine below_alloc ?_ _ | with_reducible refine below_set ?_ ?_ _ | with_reducible refine below_then ?_ (by with_reducible assumption) | with_reducible exact Nat.le_refl _ | with_reducible exact Below.size (by with_reducible assumption)))) hgrow (Nat.le_trans hb60.size (by simp)) (fun k hk => (HOWN.out.lt k hk).1)))
            all_goals
              have hch := HC.out
              have ew1 : IntKind.i64.wrap (y : Int) = (y : Int) := IntWalk.i64_in _ ⟨by omega, by omega⟩
              have ew2 : IntKind.u32.wrap (old : Int) = (old : Int) := by rw [IntKind.wrap_u32]; omega
              rw [ew1, ew2] at hown8 hgrow
              have R8 : Row3 (ownD w8 w.heap.size) (done ++ [⟨(y : Int), old, data⟩]) (rows ++ [.int .i64 (y : Int), .int .u32 (old : Int), .slice A6 data.length c6]) := by
                refine Row3.snoc (c := ⟨(y : Int), old, data⟩) (HROW.out.mono (fun v l h => ⟨h.1, own_grown (own_below h.2 (by (repeat' (first | with_reducible assumption | with_reducible exact Below.refl _ _ | with_reducible refine Below.drew ?_ | with_reducible refine below_alloc ?_ _ | with_reducible refine below_set ?_ ?_ _ | with_reducible refine below_then ?_ (by with_reducible assumption) | with_reducible exact Nat.le_refl _ | with_reducible exact Below.size (by with_reducible assumption))))) (own_below HOWN.out (by (repeat' (first | with_reducible assumption | with_reducible exact Below.refl _ _ | with_reducible refine Below.drew ?_ | with_reducible refine below_alloc ?_ _ | with_reducible refine below_set ?_ ?_ _ | with_reducible refine below_then ?_ (by with_reducible assumption) | with_reducible exact Nat.le_refl _ | with_reducible exact Below.size (by with_reducible assumption))))) hgrow (by decide)⟩)) ho32 ⟨B256.out, own_grown (own_base (own_below own6' (by (repeat' (first | with_reducible assumption | with_reducible exact Below.refl _ _ | with_reducible refine Below.drew ?_ | with_reducible refine below_alloc ?_ _ | with_reducible refine below_set ?_ ?_ _ | with_reducible refine below_then ?_ (by with_reducible assumption) | with_reducible exact Nat.le_refl _ | with_reducible exact Below.size (by with_reducible assumption))))) HBL.out.size) (own_below HOWN.out (by (repeat' (first | with_reducible assumption | with_reducible exact Below.refl _ _ | with_reducible refine Below.drew ?_ | with_reducible refine below_alloc ?_ _ | with_reducible refine below_set ?_ ?_ _ | with_reducible refine below_then ?_ (by with_reducible assumption) | with_reducible exact Nat.le_refl _ | with_reducible exact Below.size (by with_reducible assumption))))) hgrow (by decide)⟩
              have HF : Hid (∃ rows, w8.ownsRow w.heap.size 46 3 (.slice (some ⟨g, 0, none⟩) (done.length + 1) cap8) (done.length + 1) rows ∧ Row3 (ownD w8 w.heap.size) (done ++ [ch]) rows ∧ Below w.heap.size w w8) := by
                rw [hch]
                exact ⟨_, hown8, R8, hbn⟩
              clear hown8 hgrow R8 hbn own6 own6' hg6 hb6 hb60 ew1 ew2 hch hbl5 hk hb55 k1 k2 k3 k4 j9 j10 j11 j12
              go_wp2
              obtain ⟨rows8, own8, R8, b8⟩ := HF.out
              refine ⟨⟨p + (9 + n), done ++ [ch], rows8, by simp, by go_num, hpn, by simp; omega, by simp; omega, HRR.out, by simpa using own8, R8, b8⟩, by simp [intOf]; omega⟩
    · have hPE := parse_end hP hlt
      have HDS := Lib.hid (dec_some (by omega) hp hPE)
      obtain ⟨A9, c9, rfl, _⟩ := chs_of_own hown (hrow.mono (fun v l h => h.byt))
      have hdl : done.length ≤ 700 := by omega
      have HOWN := Lib.hid hown
      have HROW := Lib.hid hrow
      have HBL := Lib.hid hb
      have CH := Lib.hid (chs_of_slice hown (hrow.mono (fun v l h => h.byt)))
      clear hP hown hrow hb hPE
      by_cases h4 : xs.length < p + 4
      · have HD : Hid (dec xs = ([], 4)) := by
          have := HDS.out
          rwa [if_pos (by omega)] at this
        have g4 : decide ((xs.length : Int) < (p : Int) + 4) = true := by rw [decide_eq_true_iff]; omega
        go_wp2_with fail
        refine (TN.out _ HBL.out).mono ?_
        rintro e w3 ⟨rfl, rfl⟩
        go_wp2
        go_ret2
        exact refPost_no HD.out HBL.out
      · have g4 : decide ((xs.length : Int) < (p : Int) + 4) = false := by rw [decide_eq_false_iff_not]; omega
        by_cases h5 : p + 4 < xs.length
        · have HD : Hid (dec xs = ([], 5)) := by
            have := HDS.out
            rwa [if_neg (by omega), if_pos (by omega)] at this
          have g5 : decide ((p : Int) + 4 < (xs.length : Int)) = true := by rw [decide_eq_true_iff]; omega
          go_wp2_with fail
          refine (TN.out _ HBL.out).mono ?_
          rintro e w3 ⟨rfl, rfl⟩
          go_wp2
          go_ret2
          exact refPost_no HD.out HBL.out
        · have g5 : decide ((p : Int) + 4 < (xs.length : Int)) = false := by rw [decide_eq_false_iff_not]; omega
          have VS : Hid (∀ W, Below w.heap.size w W → Calls Try.prog 25 #[.slice (some ⟨b, off + p, none⟩) (xs.length - p) (cap - p)] W fun e w' => e = .returned (.int .i64 (valOf (xs.drop p) : Nat)) ∧ W = w') := by
            intro W hW
            have h := (HB.out.below hW).sub p 4 (by omega)
            rw [List.take_of_length_le (by simp; omega)] at h
            exact told_n _ (cap - p) (xs.length - p) _ W h (by simp) (by omega)
          have SS : Hid (∀ W, Below w.heap.size w W → Calls Try.prog 24 #[.slice (some ⟨b, off, none⟩) p cap] W fun e w' => e = .returned (.int .u32 (sumOf (xs.take p) : Nat)) ∧ W = w') := by
            intro W hW
            exact refSum_n _ cap p _ W ((HB.out.below hW).take p) (by simp; omega) (by omega)
          have hv32 : valOf (xs.drop p) < 4294967296 := by
            have := valOf_small (xs.drop p) (fun x hx => HB.out.1 x (List.mem_of_mem_drop hx)) 4 (by omega)
            rwa [List.take_of_length_le (by simp; omega)] at this
          have HDS2 : Hid (dec xs = if valOf (xs.drop p) ≠ sumOf (xs.take p) then ([], 6) else if rightC done then (done, 0) else ([], 3)) := by
            have := HDS.out
            rwa [if_neg (by omega), if_neg (by omega)] at this
          clear HDS
          generalize valOf (xs.drop p) = vv at *
          generalize sumOf (xs.take p) = ss at *
          have i1 : (0 : Int) ≤ (p : Int) := by omega
          have i2 : (p : Int) ≤ (cap : Int) := by omega
          have i3 : (p : Int) ≤ (xs.length : Int) := by omega
          have i4 : ¬ (cap = p) := by omega
          have ew : IntKind.u32.wrap (vv : Int) = (vv : Int) := by rw [IntKind.wrap_u32]; omega
          cases hvs : ((vv : Int) != (ss : Int))
          · have hvs' : vv = ss := by have : (vv : Int) = ss := by simpa using hvs
                                      omega
            cases hr : rightC done
            · have HD : Hid (dec xs = ([], 3)) := by
                have := HDS2.out
                rwa [if_neg (by simpa using hvs'), hr, if_neg (by decide)] at this
              have HR : Hid (∀ n, Calls Try.prog 8 #[.slice A9 done.length c9] (wo.drewN n) fun e w' => e = .returned (.bool false) ∧ ∃ k, w' = (wo.drewN n).drewN k) := by
                intro n
                have := refRight_any A9 c9 done (wo.drewN n) CH.out (by unfold maxLen; omega)
                rwa [hr] at this
              clear hvs' hr HDS2
              go_wp2_with fail
              refine (TN.out _ HBL.out).mono ?_
              rintro e w3 ⟨rfl, rfl⟩
              go_wp2
              go_quiet (first | (go_at_call 25; exact quiet_left (VS.out _ (below_drewN HBL.out _))) | (go_at_call 24; exact quiet_left (SS.out _ (below_drewN HBL.out _))))
              clear hvs ew
              go_wp2_with fail
              refine (HR.out nq).mono ?_
              rintro e w4 ⟨rfl, k4, rfl⟩
              go_wp2
              go_ret2
              exact refPost_no HD.out (by repeat first | exact HBL.out | refine below_drewN ?_ _)
            · have HD : Hid (dec xs = (done, 0)) := by
                have := HDS2.out
                rwa [if_neg (by simpa using hvs'), hr, if_pos rfl] at this
              have HR : Hid (∀ n, Calls Try.prog 8 #[.slice A9 done.length c9] (wo.drewN n) fun e w' => e = .returned (.bool true) ∧ ∃ k, w' = (wo.drewN n).drewN k) := by
                intro n
                have := refRight_any A9 c9 done (wo.drewN n) CH.out (by unfold maxLen; omega)
                rwa [hr] at this
              clear hvs' hr HDS2
              go_wp2_with fail
              refine (TN.out _ HBL.out).mono ?_
              rintro e w3 ⟨rfl, rfl⟩
              go_wp2
              go_quiet (first | (go_at_call 25; exact quiet_left (VS.out _ (below_drewN HBL.out _))) | (go_at_call 24; exact quiet_left (SS.out _ (below_drewN HBL.out _))))
              clear hvs ew
              go_wp2_with fail
              refine (HR.out nq).mono ?_
              rintro e w4 ⟨rfl, k4, rfl⟩
              go_wp2
              go_ret2
              unfold RefPost
              rw [HD.out]
              exact ⟨_, rows, rfl, HOWN.out, HROW.out, (by repeat first | exact HBL.out | refine below_drewN ?_ _)⟩
          · have hvs' : ¬ vv = ss := by intro h; subst h; simp at hvs
            have HD : Hid (dec xs = ([], 6)) := by
              have := HDS2.out
              rwa [if_pos hvs'] at this
            clear hvs'
            go_wp2_with fail
            refine (TN.out _ HBL.out).mono ?_
            rintro e w3 ⟨rfl, rfl⟩
            go_wp2
            go_quiet (first | (go_at_call 25; exact quiet_left (VS.out _ (below_drewN HBL.out _))) | (go_at_call 24; exact quiet_left (SS.out _ (below_drewN HBL.out _))))
            clear hvs ew
            go_wp2
            go_ret2
            exact refPost_no HD.out (below_drewN HBL.out _)
end Go.Proofs.Ytpfdgcdhcciilaa
