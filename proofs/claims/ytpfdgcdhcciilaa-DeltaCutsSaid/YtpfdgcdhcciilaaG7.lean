/- Decode: walk. -/
import Derived.Test.YtpfdgcdhcciilaaG6
import Derived.Test.YtpfdgcdhcciilaaH0
import Derived.Outline
namespace Go.Proofs.Ytpfdgcdhcciilaa
open Go.RowKit

theorem value_n (A : Option Addr) (c n : Nat) (xs : List Nat) (w : World) (hB : Byt w A xs) (hn : xs.length = n) (hl : n ≤ 4) :
    Calls Try.prog 21 #[.slice A n c] w fun e w' => e = .returned (.int .i64 (valOf xs : Nat)) ∧ w = w' := by subst hn; exact value_any A c xs w hB hl
theorem sum_n (A : Option Addr) (c n : Nat) (xs : List Nat) (w : World) (hB : Byt w A xs) (hn : xs.length = n) (hl : n ≤ 65536) :
    Calls Try.prog 19 #[.slice A n c] w fun e w' => e = .returned (.int .u32 (sumOf xs : Nat)) ∧ w = w' := by subst hn; exact sum_any A c xs w hB (by unfold maxLen; omega)
theorem Byt.sub {w : World} {b off : Nat} {xs : List Nat} (h : Byt w (some ⟨b, off, none⟩) xs) (k m : Nat) (hk : k + m ≤ xs.length) : Byt w (some ⟨b, off + k, none⟩) ((xs.drop k).take m) := by
  refine ⟨fun x hx => h.1 x (List.mem_of_mem_drop (List.mem_of_mem_take hx)), fun h0 => ?_⟩
  simp only [List.length_take, List.length_drop] at h0
  obtain ⟨b', off', e, hce⟩ := h.2 (by omega)
  injection e with e
  injection e with e1 e2
  subst e1 e2
  refine ⟨b, off + k, rfl, fun i hi => ?_⟩
  simp only [List.length_take, List.length_drop] at hi
  rw [show off + k + i = off + (k + i) by omega, hce (k + i) (by omega)]
  simp [List.getD, show i < m by omega]
theorem own_blk {w w' : World} {g : Nat} {t : TypeId} {cs : Array Value} {base : Nat} {e : TypeId} {size n : Nat} {v : Value} {xs : List Value} (h : w.ownsRow base e size v n xs) (hK : Blk w g t cs) (hg : w.grownBy w' (some g)) (hne : e ≠ t) : w'.ownsRow base e size v n xs := by
  refine h.kept hg ?_
  rcases h.2 with ⟨rfl, _⟩ | ⟨g', cap, cur, rfl, _, hh, _⟩
  · left; rfl
  · right
    intro he
    have : g' = g := by simpa [Value.ownBlock] using he
    subst this
    unfold Blk at hK
    rw [hK] at hh
    injection hh with hh
    injection hh with _ ht
    exact hne ht.symm
theorem grown_trans' {w0 w w1 : World} {g : Nat} (hb : Below w0.heap.size w0 w) (hg : w.grownBy w1 (some g)) (h : w0.heap.size ≤ g) : Below w0.heap.size w0 w1 :=
  Below.grown hb hg hb.size (fun k hk => by injection hk with hk; omega)

theorem pre_nil (o : Option (List Chg × List Nat)) : pre [] o = o := by rcases o with _ | ⟨l, r⟩ <;> rfl
theorem own_grown {w w1 : World} {b1 b2 : Nat} {e1 e2 : TypeId} {s1 s2 : Nat} {v1 v2 : Value} {n1 n2 : Nat} {x1 x2 : List Value} (h : w.ownsRow b1 e1 s1 v1 n1 x1) (hown : w.ownsRow b2 e2 s2 v2 n2 x2) (hg : w.grownBy w1 v2.ownBlock) (hne : e1 ≠ e2) : w1.ownsRow b1 e1 s1 v1 n1 x1 :=
  h.kept hg (own_apart h hown hne)
theorem quiet_left {P : Program} {f : FuncId} {args : Array Value} {w : World} {n : Nat} {v : Value} (h : Calls P f args (w.drewN n) fun e w' => e = .returned v ∧ w.drewN n = w') : Calls P f args (w.drewN n) fun e w'' => e = .returned v ∧ ∃ m, w'' = w.drewN m :=
  h.mono fun _ _ ⟨he, hm⟩ => ⟨he, n, hm.symm⟩
theorem chs_of_slice {w : World} {base : Nat} {e : TypeId} {A : Option Addr} {n c : Nat} {cs : List Chg} {rows : List Value} (h : w.ownsRow base e 3 (.slice A n c) cs.length rows) (hr : Row3 (bytD w) cs rows) : Chs w A cs := by
  obtain ⟨A', c', e, hc⟩ := chs_of_own h hr
  injection e with e1 _ _
  subst e1
  exact hc
def DecPost (xs : List Nat) (w : World) (e : Ending) (w' : World) : Prop :=
  ∃ v rows, e = .returned (.tuple #[v, .int .i64 (dec xs).2]) ∧ w'.ownsRow w.heap.size 45 3 v (dec xs).1.length rows ∧ Row3 (ownD w' w.heap.size) (dec xs).1 rows ∧ Below w.heap.size w w'
theorem decPost_no {xs : List Nat} {w w' : World} {k : Int} (h : dec xs = ([], k)) (hb : Below w.heap.size w w') : DecPost xs w (.returned (.tuple #[.slice none 0 0, .int .i64 k])) w' := by
  unfold DecPost
  rw [h]
  exact ⟨_, [], rfl, World.ownsRow_nil _ _ _ _, rfl, hb⟩

def DecRel (xs : List Nat) (b off cap : Nat) (w : World) (v i : Value) (wr : World) : Prop :=
  ∃ (p q o : Nat) (done : List Chg) (rows : List Value), i = .int .i64 (done.length : Nat) ∧ q + p = xs.length ∧ done.length ≤ countOf xs ∧ done.length ≤ p ∧ (0 < q → o = off + p) ∧
    Blk wr w.heap.size 25 #[.slice (some ⟨b, o, none⟩) q (cap - p)] ∧ parse (countOf xs) (xs.drop 2) = pre done (parse (countOf xs - done.length) (xs.drop p)) ∧
    wr.ownsRow w.heap.size 45 3 v done.length rows ∧ Row3 (ownD wr w.heap.size) done rows ∧ Below w.heap.size w wr

set_option maxRecDepth 100000 in
set_option maxHeartbeats 1000000 in
theorem decode_short (A : Option Addr) (c : Nat) (xs : List Nat) (w : World) (h2 : xs.length < 2) :
    Calls Try.prog 12 #[.slice A xs.length c] w (DecPost xs w) := by
  have HS := Lib.hid (dec_short h2)
  have g1 : decide ((4194304 : Int) < (xs.length : Int)) = false := by rw [decide_eq_false_iff_not]; omega
  go_enter Try.func12, Try.ntmps12
  go_wp2_with fail
  refine (take_no 2 w.heap.size xs.length c A _ ((Blk.new rfl).cell 0) h2).mono ?_
  rintro e w1 ⟨rfl, rfl⟩
  go_wp2
  go_ret2
  exact decPost_no HS.out (by (repeat (first | with_reducible exact Below.refl _ _ | with_reducible assumption | with_reducible refine below_drewN ?_ _ | with_reducible refine Below.drew ?_ | with_reducible refine Below.alloc ?_ (by first | exact Nat.le_refl _ | (simp; done) | (simp; omega) | omega) _ | with_reducible refine Below.setCell ?_ (by first | exact Nat.le_refl _ | (simp; done) | (simp; omega) | omega) _ | with_reducible refine Below.trans ?_ (Below.mono (by with_reducible assumption) (by first | exact Nat.le_refl _ | (simp; done) | (simp; omega) | omega)))))

set_option maxRecDepth 100000 in
set_option maxHeartbeats 4000000 in
theorem decode_long (b off cap : Nat) (xs : List Nat) (w : World) (h2 : 2 ≤ xs.length) (hl : xs.length ≤ 700) (hcap : xs.length ≤ cap) (hB : Byt w (some ⟨b, off, none⟩) xs) (hb0 : b < w.heap.size) :
    Calls Try.prog 12 #[.slice (some ⟨b, off, none⟩) xs.length cap] w (DecPost xs w) := by
  have g1 : decide ((4194304 : Int) < (xs.length : Int)) = false := by rw [decide_eq_false_iff_not]; omega
  have HB := Lib.hid hB
  have CB := Lib.hid (valOf_lt xs hB.1 2)
  clear hB
  go_enter Try.func12, Try.ntmps12
  go_wp2_with fail
  refine (take_yes 2 w.heap.size xs.length cap b off _ (Blk.new rfl) h2 hcap).mono ?_
  rintro e w1 ⟨rfl, ⟨o1, ho1, hk1⟩, hg1⟩
  have bel1 : Below w.heap.size w w1 := grown_trans' (by (repeat (first | with_reducible exact Below.refl _ _ | with_reducible assumption | with_reducible refine below_drewN ?_ _ | with_reducible refine Below.drew ?_ | with_reducible refine Below.alloc ?_ (by first | exact Nat.le_refl _ | (simp; done) | (simp; omega) | omega) _ | with_reducible refine Below.setCell ?_ (by first | exact Nat.le_refl _ | (simp; done) | (simp; omega) | omega) _ | with_reducible refine Below.trans ?_ (Below.mono (by with_reducible assumption) (by first | exact Nat.le_refl _ | (simp; done) | (simp; omega) | omega))))) hg1 (Nat.le_refl _)
  have HK1 := Lib.hid hk1
  have HO1 := Lib.hid ho1
  clear hg1 hk1 ho1
  go_wp2_with fail
  refine (value_n _ cap 2 (xs.take 2) _ ((HB.out.below bel1).take 2) (by simp; omega) (by omega)).mono ?_
  rintro e w2 ⟨rfl, rfl⟩
  have HN : Hid (valOf (xs.take 2) = countOf xs) := rfl
  have hN : countOf xs < 65536 := CB.out
  rw [HN.out]
  have BEL1 := Lib.hid bel1
  clear bel1
  go_wp2
  clear g1
  go_loopw [8, 28] (fun v i wr => DecRel xs b off cap w v i wr) (fun _ i _ => countOf xs - (intOf i).toNat)
  case atStart => exact ⟨2, xs.length - 2, o1, [], [], rfl, by omega, by simp, by simp, by rcases HO1.out with h | h <;> omega, HK1.out, (pre_nil _).symm, World.ownsRow_nil _ _ _ _, rfl, BEL1.out⟩
  case round =>
    clear HK1 HO1 BEL1
    obtain ⟨p, q, o, done, rows, rfl, hpq, hdN, hdp, ho, hK, hP, hown, hrow, hb⟩ := hrel
    obtain ⟨wo, rfl⟩ : ∃ wo : World, wo = wr := ⟨_, rfl⟩
    by_cases hlt : done.length < countOf xs
    · have HK := Lib.hid hK
      have HP := Lib.hid hP
      have HOWN := Lib.hid hown
      have HROW := Lib.hid hrow
      have HBL := Lib.hid hb
      clear hK hP hown hrow hb
      by_cases h9 : q < 9
      · have HD : Hid (dec xs = ([], 4)) := dec_none (by omega) (parse_stop HP.out hlt (by omega))
        go_wp2_with fail
        refine (take_no 9 w.heap.size q (cap - p) _ _ (HK.out.cell 0) h9).mono ?_
        rintro e w3 ⟨rfl, rfl⟩
        go_wp2
        go_ret2
        exact decPost_no HD.out HBL.out
      · have hof := ho (by omega)
        subst hof
        go_wp2_with fail
        refine (take_yes 9 w.heap.size q (cap - p) b (off + p) _ HK.out (by omega) (by omega)).mono ?_
        rintro e w3 ⟨rfl, ⟨o3, ho3, hk3⟩, hg3⟩
        have hcp : 9 ≤ cap - p := by omega
        have HG3 := Lib.hid hg3
        have HK3 := Lib.hid hk3
        have HO3 := Lib.hid ho3
        clear hg3 hk3 ho3 ho
        have HBL3 := Lib.hid (grown_trans' HBL.out HG3.out (Nat.le_refl _))
        have V1 : Hid (∀ W, Below w.heap.size w W → Calls Try.prog 21 #[.slice (some ⟨b, off + p + 5, none⟩) 4 (cap - p - 5)] W fun e w' => e = .returned (.int .i64 (lenAt (xs.drop p) : Nat)) ∧ W = w') := by
          intro W hW
          have := value_n _ (cap - p - 5) 4 _ W ((HB.out.below hW).sub (p + 5) 4 (by omega)) (by simp; omega) (by omega)
          simpa only [lenAt, List.drop_drop, Nat.add_assoc] using this
        have V2 : Hid (∀ W, Below w.heap.size w W → Calls Try.prog 21 #[.slice (some ⟨b, off + p + 1, none⟩) 4 (cap - p - 1)] W fun e w' => e = .returned (.int .i64 (oldAt (xs.drop p) : Nat)) ∧ W = w') := by
          intro W hW
          have := value_n _ (cap - p - 1) 4 _ W ((HB.out.below hW).sub (p + 1) 4 (by omega)) (by simp; omega) (by omega)
          simpa only [oldAt, List.drop_drop, Nat.add_assoc] using this
        have hn32 : lenAt (xs.drop p) < 4294967296 := valOf_small _ (fun x hx => HB.out.1 x (List.mem_of_mem_drop (List.mem_of_mem_drop hx))) 4 (by omega)
        have ho32 : oldAt (xs.drop p) < 4294967296 := valOf_small _ (fun x hx => HB.out.1 x (List.mem_of_mem_drop (List.mem_of_mem_drop hx))) 4 (by omega)
        have HR : Hid (9 + lenAt (xs.drop p) ≤ xs.length - p → parse (countOf xs) (xs.drop 2) = pre (done ++ [chgAt (xs.drop p)]) (parse (countOf xs - (done ++ [chgAt (xs.drop p)]).length) (xs.drop (p + (9 + lenAt (xs.drop p)))))) := parse_round HP.out hlt
        have HZ : Hid (xs.length - p < 9 + lenAt (xs.drop p) → parse (countOf xs) (xs.drop 2) = none) := fun h => parse_stop HP.out hlt (.inr h)
        have HC : Hid (chgAt (xs.drop p) = ⟨((xs.getD p 0 : Nat) : Int), oldAt (xs.drop p), ((xs.drop p).drop 9).take (lenAt (xs.drop p))⟩) := by
          show chgAt (xs.drop p) = _
          unfold chgAt
          simp [List.getD]
        have HBD : Hid (9 + lenAt (xs.drop p) ≤ xs.length - p → Byt w (some ⟨b, o3, none⟩) (((xs.drop p).drop 9).take (lenAt (xs.drop p)))) := by
          intro h
          rw [List.drop_drop]
          rcases Nat.eq_zero_or_pos (lenAt (xs.drop p)) with h0 | h0
          · rw [h0, List.take_zero]; exact Byt.nil _ _
          · have : o3 = off + (p + 9) := by rcases HO3.out with h | h <;> omega
            rw [this]
            exact HB.out.sub (p + 9) _ (by omega)
        have c0 : w.cell? ⟨b, off + p, none⟩ = some (.int .u8 ((xs.getD p 0 : Nat) : Int)) := by
          obtain ⟨b', off', e, hce⟩ := HB.out.2 (by omega)
          injection e with e
          injection e with e1 e2
          subst e1 e2
          exact hce p (by omega)
        have x0 := HB.out.lt p
        generalize lenAt (xs.drop p) = n at *
        generalize oldAt (xs.drop p) = old at *
        generalize xs.getD p 0 = y at *
        generalize hdt : ((xs.drop p).drop 9).take n = data at *
        have HDT := Lib.hid hdt
        clear hdt
        generalize chgAt (xs.drop p) = ch at *
        go_wp2_with fail
        refine (V1.out _ HBL3.out).mono ?_
        rintro e w4 ⟨rfl, rfl⟩
        by_cases hnq : q - 9 < n
        · have HD : Hid (dec xs = ([], 4)) := dec_none (by omega) (HZ.out (by omega))
          go_wp2_with fail
          refine (take_no n w.heap.size (q - 9) (cap - p - 9) _ _ (HK3.out.cell 0) hnq).mono ?_
          rintro e w5 ⟨rfl, rfl⟩
          go_wp2
          go_ret2
          exact decPost_no HD.out HBL3.out
        · have hlen : data.length = n := by rw [← HDT.out]; simp; omega
          have HLEN := Lib.hid hlen
          clear hlen
          go_wp2_with fail
          refine (take_yes n w.heap.size (q - 9) (cap - p - 9) b o3 _ HK3.out (by omega) (by omega)).mono ?_
          rintro e w5 ⟨rfl, ⟨o5, ho5, hk5⟩, hg5⟩
          have HG5 := Lib.hid hg5
          have HK5 := Lib.hid hk5
          have HO5 := Lib.hid ho5
          clear hg5 hk5 ho5
          have HBL5 := Lib.hid (grown_trans' HBL3.out HG5.out (Nat.le_refl _))
          have BD5 := Lib.hid ((HBD.out (by omega)).below HBL5.out)
          have CL : Hid (∀ W, Below w5.heap.size w5 W → Calls Try.prog 22 #[.slice (some ⟨b, o3, none⟩) n (cap - p - 9)] W fun e w' => ∃ v, e = .returned v ∧ ownD w' W.heap.size v data ∧ Below W.heap.size W w') := by
            intro W hW
            have := clone_any b o3 (cap - p - 9) data W (BD5.out.below hW) (by rw [HLEN.out]; omega)
            rwa [HLEN.out] at this
          have OWN5 := Lib.hid (own_blk (own_blk HOWN.out HK.out HG3.out (by decide)) HK3.out HG5.out (by decide))
          have ROW5 : Hid (Row3 (ownD w5 w.heap.size) done rows) := HROW.out.mono (fun v l h => ⟨h.1, own_blk (own_blk h.2 HK.out HG3.out (by decide)) HK3.out HG5.out (by decide)⟩)
          clear HG3 HG5 HK3 HK HOWN HROW HBL HBL3
          have hk : ∀ w', Below w.heap.size w w' → ∀ b o, b < w.heap.size → w'.cell? ⟨b, o, none⟩ = w.cell? ⟨b, o, none⟩ := fun w' h b o hb => h.cell (p := ⟨b, o, none⟩) hb
          have hbl5 := HBL5.out
          have hb55 := Below.refl w5.heap.size w5
          obtain ⟨i0, hi0, hz0, hz1, hz2⟩ := info_parts chg45_info
          have HI := Lib.hid hi0
          have HZ0 := Lib.hid hz0
          have HZ1 := Lib.hid hz1
          have HZ2 := Lib.hid hz2
          clear hi0 hz0 hz1 hz2
          have i10 : (5 : Int) ≤ ((cap - p : Nat) : Int) := by omega
          have i11 : 5 ≤ cap - p := by omega
          have i12 : ¬ (cap - p = 1) := by omega
          have i13 : ¬ (cap - p < 5) := by omega
          go_wp2_with fail
          go_region_held3 (fun w' => Below w.heap.size w w') ((repeat' (first | with_reducible assumption | with_reducible exact Below.refl _ _ | with_reducible refine Below.drew ?_ | with_reducible refine below_alloc ?_ _ | with_reducible refine below_set ?_ ?_ _ | with_reducible refine below_then ?_ (by with_reducible assumption) | with_reducible exact Nat.le_refl _ | with_reducible exact Below.size (by with_reducible assumption))))
            (first
              | (go_at_call 21; ((with_reducible refine (V2.out _ (by (repeat' (first | with_reducible assumption | with_reducible exact Below.refl _ _ | with_reducible refine Below.drew ?_ | with_reducible refine below_alloc ?_ _ | with_reducible refine below_set ?_ ?_ _ | with_reducible refine below_then ?_ (by with_reducible assumption) | with_reducible exact Nat.le_refl _ | with_reducible exact Below.size (by with_reducible assumption))))).mono ?_); rintro e w6 ⟨rfl, rfl⟩))
              | (go_at_call 22; ((with_reducible refine (CL.out _ (by (repeat' (first | with_reducible assumption | with_reducible exact Below.refl _ _ | with_reducible refine Below.drew ?_ | with_reducible refine below_alloc ?_ _ | with_reducible refine below_set ?_ ?_ _ | with_reducible refine below_then ?_ (by with_reducible assumption) | with_reducible exact Nat.le_refl _ | with_reducible exact Below.size (by with_reducible assumption))))).mono ?_); rintro e w7 ⟨v7, rfl, hD7, hb7⟩; obtain ⟨A7, c7, rfl, _⟩ := Byt.of_own hD7.2 hD7.1; have hb75 : Below w5.heap.size w5 w7 := (by (repeat' (first | with_reducible assumption | with_reducible exact Below.refl _ _ | with_reducible refine Below.drew ?_ | with_reducible refine below_alloc ?_ _ | with_reducible refine below_set ?_ ?_ _ | with_reducible refine below_then ?_ (by with_reducible assumption) | with_reducible exact Nat.le_refl _ | with_reducible exact Below.size (by with_reducible assumption)))); have hb70 : Below w.heap.size w w7 := below_then HBL5.out hb75))
              | ((refine step_append_lies _ (by rfl) _ _ _ (by rfl) w.heap.size 45 i0 _ 3 40 Try.underlying29 HI.out HZ0.out HZ1.out HZ2.out rfl (by decide) _ done.length rows (by rfl) (own_below OWN5.out (by (repeat' (first | with_reducible assumption | with_reducible exact Below.refl _ _ | with_reducible refine Below.drew ?_ | with_reducible refine below_alloc ?_ _ | with_reducible refine below_set ?_ ?_ _ | with_reducible refine below_then ?_ (by with_reducible assumption) | with_reducible exact Nat.le_refl _ | with_reducible exact Below.size (by with_reducible assumption))))) ⟨w7.heap.size, 0, none⟩ 1 1 [.int .i64 (IntKind.i64.wrap (y : Int)), .int .u32 (IntKind.u32.wrap (old : Int)), .slice A7 data.length c7] (by rfl) rfl (news3 (heap_alloc_new _ _)) (by intro u hu; simp at hu; rcases hu with rfl | rfl | rfl <;> rfl) (by omega) (by unfold maxLen; omega) (by omega) (by have := hb70.size; simp; omega) _ rfl ?_; intro g cap8 w8 hown8 hgrow _ _; have hbn : Below w.heap.size w w8 := Below.grown (by (repeat' (first | with_reducible assumption | with_reducible exact Below.refl _ _ | with_reducible refine Below.drew ?_ | with_reducible refine below_alloc ?_ _ | with_reducible refine below_set ?_ ?_ _ | with_reducible refine below_then ?_ (by with_reducible assumption) | with_reducible exact Nat.le_refl _ | with_reducible exact Below.size (by with_reducible assumption)))) hgrow (by have := hb70.size; simp; omega) (fun k hk => (OWN5.out.lt k hk).1))))
          have hch := HC.out
          have ew1 : IntKind.i64.wrap (y : Int) = (y : Int) := IntWalk.i64_in _ ⟨by omega, by omega⟩
          have ew2 : IntKind.u32.wrap (old : Int) = (old : Int) := by rw [IntKind.wrap_u32]; omega
          rw [ew1, ew2] at hown8 hgrow
          have K8 := (HK5.out.below (by (repeat' (first | with_reducible assumption | with_reducible exact Below.refl _ _ | with_reducible refine Below.drew ?_ | with_reducible refine below_alloc ?_ _ | with_reducible refine below_set ?_ ?_ _ | with_reducible refine below_then ?_ (by with_reducible assumption) | with_reducible exact Nat.le_refl _ | with_reducible exact Below.size (by with_reducible assumption))))).grown (own_below OWN5.out (by (repeat' (first | with_reducible assumption | with_reducible exact Below.refl _ _ | with_reducible refine Below.drew ?_ | with_reducible refine below_alloc ?_ _ | with_reducible refine below_set ?_ ?_ _ | with_reducible refine below_then ?_ (by with_reducible assumption) | with_reducible exact Nat.le_refl _ | with_reducible exact Below.size (by with_reducible assumption))))) hgrow (by decide)
          have R8 : Row3 (ownD w8 w.heap.size) (done ++ [⟨(y : Int), old, data⟩]) (rows ++ [.int .i64 (y : Int), .int .u32 (old : Int), .slice A7 data.length c7]) := by
            refine Row3.snoc (c := ⟨(y : Int), old, data⟩) (ROW5.out.mono (fun v l h => ⟨h.1, own_grown (own_below h.2 (by (repeat' (first | with_reducible assumption | with_reducible exact Below.refl _ _ | with_reducible refine Below.drew ?_ | with_reducible refine below_alloc ?_ _ | with_reducible refine below_set ?_ ?_ _ | with_reducible refine below_then ?_ (by with_reducible assumption) | with_reducible exact Nat.le_refl _ | with_reducible exact Below.size (by with_reducible assumption))))) (own_below OWN5.out (by (repeat' (first | with_reducible assumption | with_reducible exact Below.refl _ _ | with_reducible refine Below.drew ?_ | with_reducible refine below_alloc ?_ _ | with_reducible refine below_set ?_ ?_ _ | with_reducible refine below_then ?_ (by with_reducible assumption) | with_reducible exact Nat.le_refl _ | with_reducible exact Below.size (by with_reducible assumption))))) hgrow (by decide)⟩)) ho32 ⟨hD7.1, own_grown (own_base (own_below hD7.2 (by (repeat' (first | with_reducible assumption | with_reducible exact Below.refl _ _ | with_reducible refine Below.drew ?_ | with_reducible refine below_alloc ?_ _ | with_reducible refine below_set ?_ ?_ _ | with_reducible refine below_then ?_ (by with_reducible assumption) | with_reducible exact Nat.le_refl _ | with_reducible exact Below.size (by with_reducible assumption))))) (by have := HBL5.out.size; simp; omega)) (own_below OWN5.out (by (repeat' (first | with_reducible assumption | with_reducible exact Below.refl _ _ | with_reducible refine Below.drew ?_ | with_reducible refine below_alloc ?_ _ | with_reducible refine below_set ?_ ?_ _ | with_reducible refine below_then ?_ (by with_reducible assumption) | with_reducible exact Nat.le_refl _ | with_reducible exact Below.size (by with_reducible assumption))))) hgrow (by decide)⟩
          have HF : Hid (DecRel xs b off cap w (.slice (some ⟨g, 0, none⟩) (done.length + 1) cap8) (.int .i64 ((done.length + 1 : Nat) : Int)) w8) := by
            refine ⟨p + (9 + n), q - 9 - n, o5, done ++ [ch], rows ++ [.int .i64 (y : Int), .int .u32 (old : Int), .slice A7 data.length c7], by simp, by omega, by simp; omega, by simp; omega, by rcases HO5.out with h | h <;> rcases HO3.out with h' | h' <;> omega, ?_, HR.out (by omega), by simpa using hown8, by rw [hch]; exact R8, hbn⟩
            rw [show cap - (p + (9 + n)) = cap - p - 9 - n by omega]
            exact K8
          clear hown8 hgrow K8 R8 hbn hD7 hb7 hb75 hb70 ew1 ew2 hch hbl5 hk hb55
          go_wp2
          refine ⟨?_, by simp [intOf]; omega⟩
          simpa using HF.out
    · have hPE := parse_end hP hlt
      have HDS := Lib.hid (dec_some (by omega) (by omega) hPE)
      obtain ⟨A9, c9, rfl, hch⟩ := chs_of_own hown (hrow.mono (fun v l h => h.byt))
      have hdl : done.length ≤ 700 := by omega
      have HK := Lib.hid hK
      have HOWN := Lib.hid hown
      have HROW := Lib.hid hrow
      have HBL := Lib.hid hb
      have HCH := Lib.hid hch
      have c4 : wo.cell? ⟨w.heap.size, 0, none⟩ = some (.slice (some ⟨b, o, none⟩) q (cap - p)) := hK.cell 0
      have hsub : (xs.length : Int) - (q : Int) = (p : Int) := by omega
      have HPQ := Lib.hid hpq
      have hpx : p ≤ xs.length := by omega
      have hqx : q ≤ xs.length := by omega
      clear hK hP hown hrow hb hch hPE
      by_cases h4 : q < 4
      · have HD : Hid (dec xs = ([], 4)) := by
          have := HDS.out
          rwa [if_pos (by omega)] at this
        clear hpq
        go_wp2_with fail
        refine (take_no 4 w.heap.size q (cap - p) _ _ (HK.out.cell 0) h4).mono ?_
        rintro e w3 ⟨rfl, rfl⟩
        go_wp2
        go_ret2
        exact decPost_no HD.out HBL.out
      · have hof := ho (by omega)
        have hcp : 4 ≤ cap - p := by omega
        have hqc : q ≤ cap - p := by omega
        subst hof
        clear hpq ho
        go_wp2_with fail
        refine (take_yes 4 w.heap.size q (cap - p) b (off + p) _ HK.out (by omega) hqc).mono ?_
        rintro e w3 ⟨rfl, ⟨o3, _, hk3⟩, hg3⟩
        clear hsub c4
        have q3 : w3.cell? ⟨w.heap.size, 0, none⟩ = some (.slice (some ⟨b, o3, none⟩) (q - 4) (cap - p - 4)) := hk3.cell 0
        have HBL3 := Lib.hid (grown_trans' HBL.out hg3 (Nat.le_refl _))
        have HOWN3 := Lib.hid (own_blk HOWN.out HK.out hg3 (by decide))
        have HROW3 : Hid (Row3 (ownD w3 w.heap.size) done rows) := HROW.out.mono (fun v l h => ⟨h.1, own_blk h.2 HK.out hg3 (by decide)⟩)
        clear hk3 hg3 HK HOWN HROW
        by_cases h5 : 4 < q
        · have HD : Hid (dec xs = ([], 5)) := by
            have := HDS.out
            have hh := HPQ.out
            rwa [if_neg (by omega), if_pos (by omega)] at this
          have h50 : decide ((0 : Int) < ((q - 4 : Nat) : Int)) = true := by rw [decide_eq_true_iff]; omega
          go_wp2
          go_ret2
          exact decPost_no HD.out HBL3.out
        · obtain rfl : q = 4 := by omega
          have VS : Hid (∀ W, Below w.heap.size w W → Calls Try.prog 21 #[.slice (some ⟨b, off + p, none⟩) 4 (cap - p)] W fun e w' => e = .returned (.int .i64 (valOf (xs.drop p) : Nat)) ∧ W = w') := by
            intro W hW
            have h := (HB.out.below hW).sub p 4 (by have := HPQ.out; omega)
            rw [List.take_of_length_le (by have := HPQ.out; simp; omega)] at h
            exact value_n _ (cap - p) 4 _ W h (by have := HPQ.out; simp; omega) (by omega)
          have SS : Hid (∀ W, Below w.heap.size w W → Calls Try.prog 19 #[.slice (some ⟨b, off, none⟩) p cap] W fun e w' => e = .returned (.int .u32 (sumOf (xs.take p) : Nat)) ∧ W = w') := by
            intro W hW
            exact sum_n _ cap p _ W ((HB.out.below hW).take p) (by simp; omega) (by omega)
          have hv32 : valOf (xs.drop p) < 4294967296 := by
            have := valOf_small (xs.drop p) (fun x hx => HB.out.1 x (List.mem_of_mem_drop hx)) 4 (by omega)
            rwa [List.take_of_length_le (by have := HPQ.out; simp; omega)] at this
          have HDS2 : Hid (dec xs = if valOf (xs.drop p) ≠ sumOf (xs.take p) then ([], 6) else if rightC done then (done, 0) else ([], 3)) := by
            have := HDS.out
            have hh := HPQ.out
            rwa [if_neg (by omega), if_neg (by omega)] at this
          clear HDS
          generalize valOf (xs.drop p) = vv at *
          generalize sumOf (xs.take p) = ss at *
          have i1 : (0 : Int) ≤ (p : Int) := by omega
          have i2 : (p : Int) ≤ (cap : Int) := by omega
          have ew : IntKind.u32.wrap (vv : Int) = (vv : Int) := by rw [IntKind.wrap_u32]; omega
          have h50 : decide ((0 : Int) < ((4 - 4 : Nat) : Int)) = false := by decide
          cases hvs : ((vv : Int) != (ss : Int))
          · have hvs' : vv = ss := by have : (vv : Int) = ss := by simpa using hvs
                                      omega
            have CH3 := Lib.hid (chs_of_slice HOWN3.out (HROW3.out.mono (fun v l h => h.byt)))
            cases hr : rightC done
            · have HD : Hid (dec xs = ([], 3)) := by
                have := HDS2.out
                rwa [if_neg (by simpa using hvs'), hr, if_neg (by decide)] at this
              have HR : Hid (∀ n, Calls Try.prog 11 #[.slice A9 done.length c9] (w3.drewN n) fun e w' => e = .returned (.bool false) ∧ Below (w3.drewN n).heap.size (w3.drewN n) w') := by
                intro n
                have := right_any A9 c9 done (w3.drewN n) CH3.out (by unfold maxLen; omega)
                rwa [hr] at this
              clear hvs' hr HDS2
              go_wp2
              go_quiet (first | (go_at_call 21; exact quiet_left (VS.out _ (below_drewN HBL3.out _))) | (go_at_call 19; exact quiet_left (SS.out _ (below_drewN HBL3.out _))))
              clear hvs ew
              go_wp2_with fail
              refine (HR.out nq).mono ?_
              rintro e w4 ⟨rfl, hb4⟩
              have HB4 := Lib.hid (below_then (below_drewN HBL3.out nq) hb4)
              clear hb4
              go_wp2
              go_ret2
              exact decPost_no HD.out HB4.out
            · have HD : Hid (dec xs = (done, 0)) := by
                have := HDS2.out
                rwa [if_neg (by simpa using hvs'), hr, if_pos rfl] at this
              have HR : Hid (∀ n, Calls Try.prog 11 #[.slice A9 done.length c9] (w3.drewN n) fun e w' => e = .returned (.bool true) ∧ Below (w3.drewN n).heap.size (w3.drewN n) w') := by
                intro n
                have := right_any A9 c9 done (w3.drewN n) CH3.out (by unfold maxLen; omega)
                rwa [hr] at this
              clear hvs' hr HDS2
              go_wp2
              go_quiet (first | (go_at_call 21; exact quiet_left (VS.out _ (below_drewN HBL3.out _))) | (go_at_call 19; exact quiet_left (SS.out _ (below_drewN HBL3.out _))))
              clear hvs ew
              go_wp2_with fail
              refine (HR.out nq).mono ?_
              rintro e w4 ⟨rfl, hb4⟩
              have HB4 := Lib.hid (below_then (below_drewN HBL3.out nq) hb4)
              have HBb := Lib.hid hb4
              clear hb4
              go_wp2
              go_ret2
              unfold DecPost
              rw [HD.out]
              exact ⟨_, rows, rfl, own_below (own_drewN HOWN3.out nq) HBb.out, HROW3.out.mono (fun v l h => ⟨h.1, own_below (own_drewN h.2 nq) HBb.out⟩), HB4.out⟩
          · have hvs' : ¬ vv = ss := by intro h; subst h; simp at hvs
            have HD : Hid (dec xs = ([], 6)) := by
              have := HDS2.out
              rwa [if_pos hvs'] at this
            clear hvs'
            go_wp2
            go_quiet (first | (go_at_call 21; exact quiet_left (VS.out _ (below_drewN HBL3.out _))) | (go_at_call 19; exact quiet_left (SS.out _ (below_drewN HBL3.out _))))
            clear hvs ew
            go_wp2
            go_ret2
            exact decPost_no HD.out (below_drewN HBL3.out _)
end Go.Proofs.Ytpfdgcdhcciilaa
