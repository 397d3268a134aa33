/-
  Texts of this session and laid words, merged in their order and pruned: PAtestamurref08Same, PAtestamurref08Few, PAtestamurref07Through, PAtestamurref08Join, PureA, PureB, PAsharesSplit, PureC, PureD, PAtestamurlaw08sane, PAsharesJoin, PAtestamurlaw08SharesJoinSpec, Opens, ShOpen, LawJoinSpec.
-/
import Derived.Test.YtillfbohengpaaaKX1
import Derived.Test.YtillfbohengpaaaKX4
import Derived.Test.YtillfbohengpaaaKX3
import Derived.Test.YtillfbohengpaaaKX2
import Derived.Deep.Slices
import Derived.Deep.SlicePairs
section
namespace Go.Proofs.Ytillfbohengpaaa.PA
open Go.RowKit Go.Proofs.YtillfbohengpaaaW.PrintWords Go.Proofs.YtillfbohengpaaaW.PrintLast Go.Proofs.YtillfbohengpaaaW.PrintMore
attribute [local go_sem] max2_int min2_int max_two min_two max_three min_three max_four min_four   -- for this text's walks alone
set_option linter.unusedVariables false
set_option linter.unusedSimpArgs false
def testamurref08_Same.l0 : Nat → List (S52) → List (S52) → Int → Option (Bool)
 | 0, _, _, _ => none
 | k + 1, x0, x1, x5 => if x5 < (x0.length : Int) then (if 0 ≤ x5 then (if x5 < (x1.length : Int) then ((testamurref08_SameShare.f ((rd_T52 x0 x5).f0) ((rd_T52 x0 x5).f1) ((rd_T52 x0 x5).f2) ((rd_T52 x0 x5).f3) ((rd_T52 x0 x5).f4) ((rd_T52 x1 x5).f0) ((rd_T52 x1 x5).f1) ((rd_T52 x1 x5).f2) ((rd_T52 x1 x5).f3) ((rd_T52 x1 x5).f4)).bind fun t130 => (if t130 = true then (testamurref08_Same.l0 k x0 x1 (wrap64 (x5 + 1))) else (some false))) else (none)) else (none)) else (some true)
def testamurref08_Same.f (k : Nat) (l0 : List (S52)) (l1 : List (S52)) : Option (Bool) := if (l0.length : Int) = (l1.length : Int) then (testamurref08_Same.l0 k l0 l1 0) else (some false)
def testamurref08_Same.T6 : Bool × List (List Nat × List Nat) := (true, [([], []), ([], []), ([0, 1], [0, 1]), ([2], [2]), ([], []), ([], []), ([4, 5], [4, 5]), ([6], [6]), ([3, 7], [3, 7]), ([8], [8])])
def testamurref08_Same.B6 : List Nat := [0, 0, 3, 7, 0, 0, 48, 112, 255, 511]
theorem testamurref08_Same.tab6 : rtab .any (opsOf Try.f29 6) = testamurref08_Same.T6 := by kernel_rfl
theorem testamurref08_Same.bits6 : waitsOk testamurref08_Same.T6.2 testamurref08_Same.B6 = true := by kernel_rfl
set_option maxHeartbeats 8000000 in
set_option maxRecDepth 100000 in
theorem testamurref08_Same.calls (k : Nat) (A0 : Option Addr) (c0 : Nat) (l0 : List (S52)) (A1 : Option Addr) (c1 : Nat) (l1 : List (S52)) (r : Bool) (w : World) (hr0 : Kd.C k52 w A0 l0.length l0) (hc0 : l0.length ≤ c0) (hr1 : Kd.C k52 w A1 l1.length l1) (hc1 : l1.length ≤ c1) (h : testamurref08_Same.f k l0 l1 = some r) :
 Calls Try.prog 29 #[.slice A0 l0.length c0, .slice A1 l1.length c1] w fun e w' => e = .returned (.bool r) ∧ Below w.heap.size w w' := by
 have hu52 := Try.underlying52
 have HR0 := Aside0.mk hr0
 have HC0 := Aside0.mk hc0
 clear hr0 hc0
 have HR1 := Aside0.mk hr1
 have HC1 := Aside0.mk hc1
 clear hr1 hc1
 have HB := Aside0.mk (Below.refl w.heap.size w)
 have H : (if (l0.length : Int) = (l1.length : Int) then (testamurref08_Same.l0 k l0 l1 0) else (some false)) = some r := h
 clear h
 by_cases c3 : (l0.length : Int) = (l1.length : Int)
 · rw [if_pos c3] at H
   have c3b0 : ((l0.length : Int) == (l1.length : Int)) = true := beq_iff_eq.mpr c3
   have c3b1 : ((l0.length : Int) != (l1.length : Int)) = false := bne_eq_false_iff_eq.mpr c3
   have c3b2 : (l0.length == l1.length) = true := by first | simpa using c3 | (simp at c3 ⊢; omega)
   clear c3
   have H' := Aside0.mk H
   clear H
   go_enter Try.func29, Try.ntmps29
   go_wp2
   go_loopg [5] k (fun kq v5 w' => ∃ (x5_1 : Int), v5 = .int .i64 x5_1 ∧ Aside0 (testamurref08_Same.l0 kq l0 l1 x5_1 = some r) ∧ Aside0 (kq ≤ k) ∧ Aside0 (Below w.heap.size w w'))
   case atStart => exact ⟨(0), (by first | rfl | (simp; done) | (simp [*]; done)), H', ⟨Nat.le_refl _⟩, ⟨by repeat (first | (with_reducible first | exact HB.out | apply below_alloc | apply pw_below_drewN | apply below_drew1) | exact HB.out)⟩⟩
   case round =>
    clear H'
    try clear c1
    try clear c2
    try clear p2
    try clear c3
    try clear c3b0
    try clear c3b1
    try clear c3b2
    obtain ⟨x5_1, rfl, HA, HK1, HB⟩ := hrel
    cases gk with
    | zero => exact absurd HA.out (by simp [testamurref08_Same.l0])
    | succ k1 =>
     have H := HA.out
     clear HA
     simp only [testamurref08_Same.l0] at H
     by_cases c4 : x5_1 < (l0.length : Int)
     · rw [if_pos c4] at H
       have c4b0 : decide (x5_1 < (l0.length : Int)) = true := decide_eq_true c4
       clear c4
       by_cases c5 : 0 ≤ x5_1
       · rw [if_pos c5] at H
         have c5b0 : decide (0 ≤ x5_1) = true := decide_eq_true c5
         clear c5
         by_cases c6 : x5_1 < (l1.length : Int)
         · rw [if_pos c6] at H
           have c6b0 : decide (x5_1 < (l1.length : Int)) = true := decide_eq_true c6
           clear c6
           replace H := Option.bind_eq_some_iff.mp H
           obtain ⟨t130, A70, H⟩ := H
           replace H : (if t130 = true then (testamurref08_Same.l0 k1 l0 l1 (wrap64 (x5_1 + 1))) else (some false)) = some r := H
           have A7 := Aside0.mk A70
           clear A70
           by_cases c8 : t130 = true
           · subst c8
             have H1 : (testamurref08_Same.l0 k1 l0 l1 (wrap64 (x5_1 + 1))) = some r := by rw [if_pos rfl] at H; exact H
             clear H
             have H := H1
             clear H1
             have H' := Aside0.mk H
             clear H
             try go_wp2
             have n0_ := Aside0.mk (below_drew1 HB.out)
             clear HB
             have HB := n0_
             clear n0_
             have p128 : 0 ≤ (x5_1 : Int) := of_decide_eq_true (by first | (with_reducible assumption) | assumption)
             have q128 : x5_1 < (l0.length : Int) := of_decide_eq_true (by first | (with_reducible assumption) | assumption)
             obtain ⟨ad128, A128_4, c128_4, e128, hx128_0, hx128_1, hx128_2, hx128_3, hx128_4, hl128_4, hi128_4⟩ := at_T52 HR0.out x5_1 p128 q128
             have hw128_4 := hx128_4
             have hw128_3 := hx128_3
             have hw128_2 := hx128_2
             have hw128_1 := hx128_1
             have hw128_0 := hx128_0
             cases e128
             replace hx128_0 := (HB.out.cell (World.block_lt_of_cell? w _ hx128_0)).trans hx128_0
             replace hx128_1 := (HB.out.cell (World.block_lt_of_cell? w _ hx128_1)).trans hx128_1
             replace hx128_2 := (HB.out.cell (World.block_lt_of_cell? w _ hx128_2)).trans hx128_2
             replace hx128_3 := (HB.out.cell (World.block_lt_of_cell? w _ hx128_3)).trans hx128_3
             replace hx128_4 := (HB.out.cell (World.block_lt_of_cell? w _ hx128_4)).trans hx128_4
             have HR128_4 := Aside0.mk hi128_4
             have HC128_4 := Aside0.mk hl128_4
             clear hi128_4 hl128_4
             replace p128 := eq_true p128
             replace q128 := eq_true q128
             have p129 : 0 ≤ (x5_1 : Int) := of_decide_eq_true (by first | (with_reducible assumption) | assumption)
             have q129 : x5_1 < (l1.length : Int) := of_decide_eq_true (by first | (with_reducible assumption) | assumption)
             obtain ⟨ad129, A129_4, c129_4, e129, hx129_0, hx129_1, hx129_2, hx129_3, hx129_4, hl129_4, hi129_4⟩ := at_T52 HR1.out x5_1 p129 q129
             have hw129_4 := hx129_4
             have hw129_3 := hx129_3
             have hw129_2 := hx129_2
             have hw129_1 := hx129_1
             have hw129_0 := hx129_0
             cases e129
             replace hx129_0 := (HB.out.cell (World.block_lt_of_cell? w _ hx129_0)).trans hx129_0
             replace hx129_1 := (HB.out.cell (World.block_lt_of_cell? w _ hx129_1)).trans hx129_1
             replace hx129_2 := (HB.out.cell (World.block_lt_of_cell? w _ hx129_2)).trans hx129_2
             replace hx129_3 := (HB.out.cell (World.block_lt_of_cell? w _ hx129_3)).trans hx129_3
             replace hx129_4 := (HB.out.cell (World.block_lt_of_cell? w _ hx129_4)).trans hx129_4
             have HR129_4 := Aside0.mk hi129_4
             have HC129_4 := Aside0.mk hl129_4
             clear hi129_4 hl129_4
             replace p129 := eq_true p129
             replace q129 := eq_true q129
             refine start_ (n := 10) (S := fun w' => w'.cell? (ad128.add ((x5_1).toNat * 5)) = some (.int .i64 ((rd_T52 l0 x5_1).f0)) ∧ w'.cell? ⟨(ad128.add ((x5_1).toNat * 5)).block, (ad128.add ((x5_1).toNat * 5)).off + 1, none⟩ = some (.int .i64 ((rd_T52 l0 x5_1).f1)) ∧ w'.cell? ⟨(ad128.add ((x5_1).toNat * 5)).block, (ad128.add ((x5_1).toNat * 5)).off + 2, none⟩ = some (.int .i64 ((rd_T52 l0 x5_1).f2)) ∧ w'.cell? ⟨(ad128.add ((x5_1).toNat * 5)).block, (ad128.add ((x5_1).toNat * 5)).off + 3, none⟩ = some (.int .i64 ((rd_T52 l0 x5_1).f3)) ∧ w'.cell? ⟨(ad128.add ((x5_1).toNat * 5)).block, (ad128.add ((x5_1).toNat * 5)).off + 4, none⟩ = some (.slice A128_4 ((rd_T52 l0 x5_1).f4).length c128_4) ∧ w'.cell? (ad129.add ((x5_1).toNat * 5)) = some (.int .i64 ((rd_T52 l1 x5_1).f0)) ∧ w'.cell? ⟨(ad129.add ((x5_1).toNat * 5)).block, (ad129.add ((x5_1).toNat * 5)).off + 1, none⟩ = some (.int .i64 ((rd_T52 l1 x5_1).f1)) ∧ w'.cell? ⟨(ad129.add ((x5_1).toNat * 5)).block, (ad129.add ((x5_1).toNat * 5)).off + 2, none⟩ = some (.int .i64 ((rd_T52 l1 x5_1).f2)) ∧ w'.cell? ⟨(ad129.add ((x5_1).toNat * 5)).block, (ad129.add ((x5_1).toNat * 5)).off + 3, none⟩ = some (.int .i64 ((rd_T52 l1 x5_1).f3)) ∧ w'.cell? ⟨(ad129.add ((x5_1).toNat * 5)).block, (ad129.add ((x5_1).toNat * 5)).off + 4, none⟩ = some (.slice A129_4 ((rd_T52 l1 x5_1).f4).length c129_4)) (ds := []) #[false, false, false, false, false, false, false, false, false, false] (by kernel_rfl) rfl rfl ⟨((HB.out.cell (World.block_lt_of_cell? w _ hw128_0)).trans hw128_0), ((HB.out.cell (World.block_lt_of_cell? w _ hw128_1)).trans hw128_1), ((HB.out.cell (World.block_lt_of_cell? w _ hw128_2)).trans hw128_2), ((HB.out.cell (World.block_lt_of_cell? w _ hw128_3)).trans hw128_3), ((HB.out.cell (World.block_lt_of_cell? w _ hw128_4)).trans hw128_4), ((HB.out.cell (World.block_lt_of_cell? w _ hw129_0)).trans hw129_0), ((HB.out.cell (World.block_lt_of_cell? w _ hw129_1)).trans hw129_1), ((HB.out.cell (World.block_lt_of_cell? w _ hw129_2)).trans hw129_2), ((HB.out.cell (World.block_lt_of_cell? w _ hw129_3)).trans hw129_3), ((HB.out.cell (World.block_lt_of_cell? w _ hw129_4)).trans hw129_4)⟩ (fun hHeld => ?_); refine with_tabW testamurref08_Same.tab6 testamurref08_Same.bits6 (fun HT_ HW_ => ?_)
             generalize wr.drew = w9 at HB HR128_4 HR129_4 hx128_0 hx128_1 hx128_2 hx128_3 hx128_4 hx129_0 hx129_1 hx129_2 hx129_3 hx129_4 hHeld ⊢
             refine pure_ (i := 0) (N := some 17) (v := ?_) (a' := ?_) #[true, false, false, false, false, false, false, false, false, false] rfl rfl (any_of HT_.out (by kernel_rfl)) (fun _ _ _ h => h) (Or.inl ⟨by rfl, ?_⟩) ?_ ?_
             rotate_left
             · intro w'
               go_simp
               with_reducible rfl
             rotate_left
             · simp only [Act.put, List.setIfInBounds_toArray, List.set_cons_zero, List.set_cons_succ, i64_w, i32_w]
               rfl
             refine pure_ (i := 1) (N := some 18) (v := ?_) (a' := ?_) #[true, true, false, false, false, false, false, false, false, false] rfl rfl (any_of HT_.out (by kernel_rfl)) (fun _ _ _ h => h) (Or.inl ⟨by rfl, ?_⟩) ?_ ?_
             rotate_left
             · intro w'
               go_simp
               with_reducible rfl
             rotate_left
             · simp only [Act.put, List.setIfInBounds_toArray, List.set_cons_zero, List.set_cons_succ, i64_w, i32_w]
               rfl
             refine pure_ (i := 2) (N := some 19) (v := ?_) (a' := ?_) #[true, true, true, false, false, false, false, false, false, false] rfl rfl (any_of HT_.out (by kernel_rfl)) (fun _ _ _ h => h) (Or.inl ⟨by rfl, ?_⟩) ?_ ?_
             rotate_left
             · intro w'
               go_simp
               with_reducible rfl
             rotate_left
             · simp only [Act.put, List.setIfInBounds_toArray, List.set_cons_zero, List.set_cons_succ, i64_w, i32_w]
               rfl
             refine pure_ (i := 4) (N := some 21) (v := ?_) (a' := ?_) #[true, true, true, false, true, false, false, false, false, false] rfl rfl (any_of HT_.out (by kernel_rfl)) (fun _ _ _ h => h) (Or.inl ⟨by rfl, ?_⟩) ?_ ?_
             rotate_left
             · intro w'
               go_simp
               with_reducible rfl
             rotate_left
             · simp only [Act.put, List.setIfInBounds_toArray, List.set_cons_zero, List.set_cons_succ, i64_w, i32_w]
               rfl
             refine pure_ (i := 5) (N := some 22) (v := ?_) (a' := ?_) #[true, true, true, false, true, true, false, false, false, false] rfl rfl (any_of HT_.out (by kernel_rfl)) (fun _ _ _ h => h) (Or.inl ⟨by rfl, ?_⟩) ?_ ?_
             rotate_left
             · intro w'
               go_simp
               with_reducible rfl
             rotate_left
             · simp only [Act.put, List.setIfInBounds_toArray, List.set_cons_zero, List.set_cons_succ, i64_w, i32_w]
               rfl
             refine pure_ (i := 6) (N := some 23) (v := ?_) (a' := ?_) #[true, true, true, false, true, true, true, false, false, false] rfl rfl (any_of HT_.out (by kernel_rfl)) (fun _ _ _ h => h) (Or.inl ⟨by rfl, ?_⟩) ?_ ?_
             rotate_left
             · intro w'
               go_simp
               with_reducible rfl
             rotate_left
             · simp only [Act.put, List.setIfInBounds_toArray, List.set_cons_zero, List.set_cons_succ, i64_w, i32_w]
               rfl
             refine take_ (i := 3) (N := some 20) (v := ?_) (a' := ?_) #[true, true, true, true, true, true, true, false, false, false] rfl rfl (take_ofW HT_.out HW_.out (by kernel_rfl)) (fun _ _ _ h => h) (Or.inl ⟨by rfl, ?_⟩) hHeld ?_ ?_
             rotate_left
             · rintro w' ⟨s0, s1, s2, s3, s4, s5, s6, s7, s8, s9⟩
               go_simp
               with_reducible rfl
             rotate_left
             · simp only [Act.put, List.setIfInBounds_toArray, List.set_cons_zero, List.set_cons_succ, i64_w, i32_w]
               rfl
             refine take_ (i := 7) (N := some 24) (v := ?_) (a' := ?_) #[true, true, true, true, true, true, true, true, false, false] rfl rfl (take_ofW HT_.out HW_.out (by kernel_rfl)) (fun _ _ _ h => h) (Or.inl ⟨by rfl, ?_⟩) hHeld ?_ ?_
             rotate_left
             · rintro w' ⟨s0, s1, s2, s3, s4, s5, s6, s7, s8, s9⟩
               go_simp
               with_reducible rfl
             rotate_left
             · simp only [Act.put, List.setIfInBounds_toArray, List.set_cons_zero, List.set_cons_succ, i64_w, i32_w]
               rfl
             refine one_ (i := 8) (N := some 25) #[true, true, true, true, true, true, true, true, true, false] rfl rfl (one_of HT_.out (by kernel_rfl)) (by decide) (fun K hK => ?_)
             refine goes_ Try.func48 (by kernel_rfl) rfl #[.agg #[.int .i64 ((rd_T52 l0 x5_1).f0), .int .i64 ((rd_T52 l0 x5_1).f1), .int .i64 ((rd_T52 l0 x5_1).f2), .int .i64 ((rd_T52 l0 x5_1).f3), .slice A128_4 ((rd_T52 l0 x5_1).f4).length c128_4], .agg #[.int .i64 ((rd_T52 l1 x5_1).f0), .int .i64 ((rd_T52 l1 x5_1).f1), .int .i64 ((rd_T52 l1 x5_1).f2), .int .i64 ((rd_T52 l1 x5_1).f3), .slice A129_4 ((rd_T52 l1 x5_1).f4).length c129_4]] (by rfl) rfl rfl (by (try simp only [List.map_toArray, List.map_cons, List.map_nil]); first | done | rfl | (simp only [List.length_drop, List.length_take]; rfl)) ?_
             with_reducible refine (testamurref08_SameShare.calls ((rd_T52 l0 x5_1).f0) ((rd_T52 l0 x5_1).f1) ((rd_T52 l0 x5_1).f2) ((rd_T52 l0 x5_1).f3) _ _ ((rd_T52 l0 x5_1).f4) ((rd_T52 l1 x5_1).f0) ((rd_T52 l1 x5_1).f1) ((rd_T52 l1 x5_1).f2) ((rd_T52 l1 x5_1).f3) _ _ ((rd_T52 l1 x5_1).f4) true _ ?side1 ?side2 ?side3 ?side4 A7.out).mono ?_
             (case side1 => repeat (first | exact (Kd.C_below HR128_4.out HB.out) | (with_reducible refine Kd.C_alloc ?_ _) | (with_reducible refine Kd.C_drewN ?_ _) | (with_reducible refine Kd.C_drew ?_)))
             (case side2 => exact HC128_4.out)
             (case side3 => repeat (first | exact (Kd.C_below HR129_4.out HB.out) | (with_reducible refine Kd.C_alloc ?_ _) | (with_reducible refine Kd.C_drewN ?_ _) | (with_reducible refine Kd.C_drew ?_)))
             (case side4 => exact HC129_4.out)
             rintro e w10 ⟨rfl, hb⟩
             refine ⟨_, rfl, ?_⟩
             have n0_ := Aside0.mk (below_step (by repeat (first | (with_reducible first | exact HB.out | apply below_alloc | apply pw_below_drewN | apply below_drew1) | exact HB.out)) hb)
             clear HB
             have HB := n0_
             clear n0_
             (try clear hb)
             (try clear hb2)
             (try clear hk)
             (try clear hi)
             refine hK.out _ _ ⟨((HB.out.cell (World.block_lt_of_cell? w _ hw128_0)).trans hw128_0), ((HB.out.cell (World.block_lt_of_cell? w _ hw128_1)).trans hw128_1), ((HB.out.cell (World.block_lt_of_cell? w _ hw128_2)).trans hw128_2), ((HB.out.cell (World.block_lt_of_cell? w _ hw128_3)).trans hw128_3), ((HB.out.cell (World.block_lt_of_cell? w _ hw128_4)).trans hw128_4), ((HB.out.cell (World.block_lt_of_cell? w _ hw129_0)).trans hw129_0), ((HB.out.cell (World.block_lt_of_cell? w _ hw129_1)).trans hw129_1), ((HB.out.cell (World.block_lt_of_cell? w _ hw129_2)).trans hw129_2), ((HB.out.cell (World.block_lt_of_cell? w _ hw129_3)).trans hw129_3), ((HB.out.cell (World.block_lt_of_cell? w _ hw129_4)).trans hw129_4)⟩ (fun hHeld => ?_)
             clear hK K
             refine norm_ (a' := ?_) ?_ ?_
             rotate_left
             · show Act.put _ (some 25) _ = _
               simp only [Act.put, List.setIfInBounds_toArray, List.set_cons_zero, List.set_cons_succ, i64_w, i32_w]
               rfl
             refine pure_ (i := 9) (N := some 26) (v := ?_) (a' := ?_) #[true, true, true, true, true, true, true, true, true, true] rfl rfl (any_of HT_.out (by kernel_rfl)) (fun _ _ _ h => h) (Or.inl ⟨by rfl, ?_⟩) ?_ ?_
             rotate_left
             · intro w'
               go_simp
               with_reducible rfl
             rotate_left
             · simp only [Act.put, List.setIfInBounds_toArray, List.set_cons_zero, List.set_cons_succ, i64_w, i32_w]
               rfl
             refine done_ (done_of HT_.out (by kernel_rfl)) ?_
             try go_wp2
             go_roundg k1
             case measure => have := HK1.out; omega
             case rel => exact ⟨(wrap64 (x5_1 + 1)), (by first | rfl | (simp; done) | (simp [*]; done)), H', ⟨by have := HK1.out; omega⟩, ⟨by repeat (first | (with_reducible first | exact HB.out | apply below_alloc | apply pw_below_drewN | apply below_drew1) | exact HB.out)⟩⟩
           · replace c8 := Bool.eq_false_iff.mpr c8
             subst c8
             have H1 : (some false) = some r := by rw [if_neg (show ¬ (false = true) by decide)] at H; exact H
             clear H
             have H := H1
             clear H1
             obtain rfl := Option.some.inj H
             try go_wp2
             have n0_ := Aside0.mk (below_drew1 HB.out)
             clear HB
             have HB := n0_
             clear n0_
             have p128 : 0 ≤ (x5_1 : Int) := of_decide_eq_true (by first | (with_reducible assumption) | assumption)
             have q128 : x5_1 < (l0.length : Int) := of_decide_eq_true (by first | (with_reducible assumption) | assumption)
             obtain ⟨ad128, A128_4, c128_4, e128, hx128_0, hx128_1, hx128_2, hx128_3, hx128_4, hl128_4, hi128_4⟩ := at_T52 HR0.out x5_1 p128 q128
             have hw128_4 := hx128_4
             have hw128_3 := hx128_3
             have hw128_2 := hx128_2
             have hw128_1 := hx128_1
             have hw128_0 := hx128_0
             cases e128
             replace hx128_0 := (HB.out.cell (World.block_lt_of_cell? w _ hx128_0)).trans hx128_0
             replace hx128_1 := (HB.out.cell (World.block_lt_of_cell? w _ hx128_1)).trans hx128_1
             replace hx128_2 := (HB.out.cell (World.block_lt_of_cell? w _ hx128_2)).trans hx128_2
             replace hx128_3 := (HB.out.cell (World.block_lt_of_cell? w _ hx128_3)).trans hx128_3
             replace hx128_4 := (HB.out.cell (World.block_lt_of_cell? w _ hx128_4)).trans hx128_4
             have HR128_4 := Aside0.mk hi128_4
             have HC128_4 := Aside0.mk hl128_4
             clear hi128_4 hl128_4
             replace p128 := eq_true p128
             replace q128 := eq_true q128
             have p129 : 0 ≤ (x5_1 : Int) := of_decide_eq_true (by first | (with_reducible assumption) | assumption)
             have q129 : x5_1 < (l1.length : Int) := of_decide_eq_true (by first | (with_reducible assumption) | assumption)
             obtain ⟨ad129, A129_4, c129_4, e129, hx129_0, hx129_1, hx129_2, hx129_3, hx129_4, hl129_4, hi129_4⟩ := at_T52 HR1.out x5_1 p129 q129
             have hw129_4 := hx129_4
             have hw129_3 := hx129_3
             have hw129_2 := hx129_2
             have hw129_1 := hx129_1
             have hw129_0 := hx129_0
             cases e129
             replace hx129_0 := (HB.out.cell (World.block_lt_of_cell? w _ hx129_0)).trans hx129_0
             replace hx129_1 := (HB.out.cell (World.block_lt_of_cell? w _ hx129_1)).trans hx129_1
             replace hx129_2 := (HB.out.cell (World.block_lt_of_cell? w _ hx129_2)).trans hx129_2
             replace hx129_3 := (HB.out.cell (World.block_lt_of_cell? w _ hx129_3)).trans hx129_3
             replace hx129_4 := (HB.out.cell (World.block_lt_of_cell? w _ hx129_4)).trans hx129_4
             have HR129_4 := Aside0.mk hi129_4
             have HC129_4 := Aside0.mk hl129_4
             clear hi129_4 hl129_4
             replace p129 := eq_true p129
             replace q129 := eq_true q129
             refine start_ (n := 10) (S := fun w' => w'.cell? (ad128.add ((x5_1).toNat * 5)) = some (.int .i64 ((rd_T52 l0 x5_1).f0)) ∧ w'.cell? ⟨(ad128.add ((x5_1).toNat * 5)).block, (ad128.add ((x5_1).toNat * 5)).off + 1, none⟩ = some (.int .i64 ((rd_T52 l0 x5_1).f1)) ∧ w'.cell? ⟨(ad128.add ((x5_1).toNat * 5)).block, (ad128.add ((x5_1).toNat * 5)).off + 2, none⟩ = some (.int .i64 ((rd_T52 l0 x5_1).f2)) ∧ w'.cell? ⟨(ad128.add ((x5_1).toNat * 5)).block, (ad128.add ((x5_1).toNat * 5)).off + 3, none⟩ = some (.int .i64 ((rd_T52 l0 x5_1).f3)) ∧ w'.cell? ⟨(ad128.add ((x5_1).toNat * 5)).block, (ad128.add ((x5_1).toNat * 5)).off + 4, none⟩ = some (.slice A128_4 ((rd_T52 l0 x5_1).f4).length c128_4) ∧ w'.cell? (ad129.add ((x5_1).toNat * 5)) = some (.int .i64 ((rd_T52 l1 x5_1).f0)) ∧ w'.cell? ⟨(ad129.add ((x5_1).toNat * 5)).block, (ad129.add ((x5_1).toNat * 5)).off + 1, none⟩ = some (.int .i64 ((rd_T52 l1 x5_1).f1)) ∧ w'.cell? ⟨(ad129.add ((x5_1).toNat * 5)).block, (ad129.add ((x5_1).toNat * 5)).off + 2, none⟩ = some (.int .i64 ((rd_T52 l1 x5_1).f2)) ∧ w'.cell? ⟨(ad129.add ((x5_1).toNat * 5)).block, (ad129.add ((x5_1).toNat * 5)).off + 3, none⟩ = some (.int .i64 ((rd_T52 l1 x5_1).f3)) ∧ w'.cell? ⟨(ad129.add ((x5_1).toNat * 5)).block, (ad129.add ((x5_1).toNat * 5)).off + 4, none⟩ = some (.slice A129_4 ((rd_T52 l1 x5_1).f4).length c129_4)) (ds := []) #[false, false, false, false, false, false, false, false, false, false] (by kernel_rfl) rfl rfl ⟨((HB.out.cell (World.block_lt_of_cell? w _ hw128_0)).trans hw128_0), ((HB.out.cell (World.block_lt_of_cell? w _ hw128_1)).trans hw128_1), ((HB.out.cell (World.block_lt_of_cell? w _ hw128_2)).trans hw128_2), ((HB.out.cell (World.block_lt_of_cell? w _ hw128_3)).trans hw128_3), ((HB.out.cell (World.block_lt_of_cell? w _ hw128_4)).trans hw128_4), ((HB.out.cell (World.block_lt_of_cell? w _ hw129_0)).trans hw129_0), ((HB.out.cell (World.block_lt_of_cell? w _ hw129_1)).trans hw129_1), ((HB.out.cell (World.block_lt_of_cell? w _ hw129_2)).trans hw129_2), ((HB.out.cell (World.block_lt_of_cell? w _ hw129_3)).trans hw129_3), ((HB.out.cell (World.block_lt_of_cell? w _ hw129_4)).trans hw129_4)⟩ (fun hHeld => ?_); refine with_tabW testamurref08_Same.tab6 testamurref08_Same.bits6 (fun HT_ HW_ => ?_)
             generalize wr.drew = w11 at HB HR128_4 HR129_4 hx128_0 hx128_1 hx128_2 hx128_3 hx128_4 hx129_0 hx129_1 hx129_2 hx129_3 hx129_4 hHeld ⊢
             refine pure_ (i := 0) (N := some 17) (v := ?_) (a' := ?_) #[true, false, false, false, false, false, false, false, false, false] rfl rfl (any_of HT_.out (by kernel_rfl)) (fun _ _ _ h => h) (Or.inl ⟨by rfl, ?_⟩) ?_ ?_
             rotate_left
             · intro w'
               go_simp
               with_reducible rfl
             rotate_left
             · simp only [Act.put, List.setIfInBounds_toArray, List.set_cons_zero, List.set_cons_succ, i64_w, i32_w]
               rfl
             refine pure_ (i := 1) (N := some 18) (v := ?_) (a' := ?_) #[true, true, false, false, false, false, false, false, false, false] rfl rfl (any_of HT_.out (by kernel_rfl)) (fun _ _ _ h => h) (Or.inl ⟨by rfl, ?_⟩) ?_ ?_
             rotate_left
             · intro w'
               go_simp
               with_reducible rfl
             rotate_left
             · simp only [Act.put, List.setIfInBounds_toArray, List.set_cons_zero, List.set_cons_succ, i64_w, i32_w]
               rfl
             refine pure_ (i := 2) (N := some 19) (v := ?_) (a' := ?_) #[true, true, true, false, false, false, false, false, false, false] rfl rfl (any_of HT_.out (by kernel_rfl)) (fun _ _ _ h => h) (Or.inl ⟨by rfl, ?_⟩) ?_ ?_
             rotate_left
             · intro w'
               go_simp
               with_reducible rfl
             rotate_left
             · simp only [Act.put, List.setIfInBounds_toArray, List.set_cons_zero, List.set_cons_succ, i64_w, i32_w]
               rfl
             refine pure_ (i := 4) (N := some 21) (v := ?_) (a' := ?_) #[true, true, true, false, true, false, false, false, false, false] rfl rfl (any_of HT_.out (by kernel_rfl)) (fun _ _ _ h => h) (Or.inl ⟨by rfl, ?_⟩) ?_ ?_
             rotate_left
             · intro w'
               go_simp
               with_reducible rfl
             rotate_left
             · simp only [Act.put, List.setIfInBounds_toArray, List.set_cons_zero, List.set_cons_succ, i64_w, i32_w]
               rfl
             refine pure_ (i := 5) (N := some 22) (v := ?_) (a' := ?_) #[true, true, true, false, true, true, false, false, false, false] rfl rfl (any_of HT_.out (by kernel_rfl)) (fun _ _ _ h => h) (Or.inl ⟨by rfl, ?_⟩) ?_ ?_
             rotate_left
             · intro w'
               go_simp
               with_reducible rfl
             rotate_left
             · simp only [Act.put, List.setIfInBounds_toArray, List.set_cons_zero, List.set_cons_succ, i64_w, i32_w]
               rfl
             refine pure_ (i := 6) (N := some 23) (v := ?_) (a' := ?_) #[true, true, true, false, true, true, true, false, false, false] rfl rfl (any_of HT_.out (by kernel_rfl)) (fun _ _ _ h => h) (Or.inl ⟨by rfl, ?_⟩) ?_ ?_
             rotate_left
             · intro w'
               go_simp
               with_reducible rfl
             rotate_left
             · simp only [Act.put, List.setIfInBounds_toArray, List.set_cons_zero, List.set_cons_succ, i64_w, i32_w]
               rfl
             refine take_ (i := 3) (N := some 20) (v := ?_) (a' := ?_) #[true, true, true, true, true, true, true, false, false, false] rfl rfl (take_ofW HT_.out HW_.out (by kernel_rfl)) (fun _ _ _ h => h) (Or.inl ⟨by rfl, ?_⟩) hHeld ?_ ?_
             rotate_left
             · rintro w' ⟨s0, s1, s2, s3, s4, s5, s6, s7, s8, s9⟩
               go_simp
               with_reducible rfl
             rotate_left
             · simp only [Act.put, List.setIfInBounds_toArray, List.set_cons_zero, List.set_cons_succ, i64_w, i32_w]
               rfl
             refine take_ (i := 7) (N := some 24) (v := ?_) (a' := ?_) #[true, true, true, true, true, true, true, true, false, false] rfl rfl (take_ofW HT_.out HW_.out (by kernel_rfl)) (fun _ _ _ h => h) (Or.inl ⟨by rfl, ?_⟩) hHeld ?_ ?_
             rotate_left
             · rintro w' ⟨s0, s1, s2, s3, s4, s5, s6, s7, s8, s9⟩
               go_simp
               with_reducible rfl
             rotate_left
             · simp only [Act.put, List.setIfInBounds_toArray, List.set_cons_zero, List.set_cons_succ, i64_w, i32_w]
               rfl
             refine one_ (i := 8) (N := some 25) #[true, true, true, true, true, true, true, true, true, false] rfl rfl (one_of HT_.out (by kernel_rfl)) (by decide) (fun K hK => ?_)
             refine goes_ Try.func48 (by kernel_rfl) rfl #[.agg #[.int .i64 ((rd_T52 l0 x5_1).f0), .int .i64 ((rd_T52 l0 x5_1).f1), .int .i64 ((rd_T52 l0 x5_1).f2), .int .i64 ((rd_T52 l0 x5_1).f3), .slice A128_4 ((rd_T52 l0 x5_1).f4).length c128_4], .agg #[.int .i64 ((rd_T52 l1 x5_1).f0), .int .i64 ((rd_T52 l1 x5_1).f1), .int .i64 ((rd_T52 l1 x5_1).f2), .int .i64 ((rd_T52 l1 x5_1).f3), .slice A129_4 ((rd_T52 l1 x5_1).f4).length c129_4]] (by rfl) rfl rfl (by (try simp only [List.map_toArray, List.map_cons, List.map_nil]); first | done | rfl | (simp only [List.length_drop, List.length_take]; rfl)) ?_
             with_reducible refine (testamurref08_SameShare.calls ((rd_T52 l0 x5_1).f0) ((rd_T52 l0 x5_1).f1) ((rd_T52 l0 x5_1).f2) ((rd_T52 l0 x5_1).f3) _ _ ((rd_T52 l0 x5_1).f4) ((rd_T52 l1 x5_1).f0) ((rd_T52 l1 x5_1).f1) ((rd_T52 l1 x5_1).f2) ((rd_T52 l1 x5_1).f3) _ _ ((rd_T52 l1 x5_1).f4) false _ ?side1 ?side2 ?side3 ?side4 A7.out).mono ?_
             (case side1 => repeat (first | exact (Kd.C_below HR128_4.out HB.out) | (with_reducible refine Kd.C_alloc ?_ _) | (with_reducible refine Kd.C_drewN ?_ _) | (with_reducible refine Kd.C_drew ?_)))
             (case side2 => exact HC128_4.out)
             (case side3 => repeat (first | exact (Kd.C_below HR129_4.out HB.out) | (with_reducible refine Kd.C_alloc ?_ _) | (with_reducible refine Kd.C_drewN ?_ _) | (with_reducible refine Kd.C_drew ?_)))
             (case side4 => exact HC129_4.out)
             rintro e w12 ⟨rfl, hb⟩
             refine ⟨_, rfl, ?_⟩
             have n0_ := Aside0.mk (below_step (by repeat (first | (with_reducible first | exact HB.out | apply below_alloc | apply pw_below_drewN | apply below_drew1) | exact HB.out)) hb)
             clear HB
             have HB := n0_
             clear n0_
             (try clear hb)
             (try clear hb2)
             (try clear hk)
             (try clear hi)
             refine hK.out _ _ ⟨((HB.out.cell (World.block_lt_of_cell? w _ hw128_0)).trans hw128_0), ((HB.out.cell (World.block_lt_of_cell? w _ hw128_1)).trans hw128_1), ((HB.out.cell (World.block_lt_of_cell? w _ hw128_2)).trans hw128_2), ((HB.out.cell (World.block_lt_of_cell? w _ hw128_3)).trans hw128_3), ((HB.out.cell (World.block_lt_of_cell? w _ hw128_4)).trans hw128_4), ((HB.out.cell (World.block_lt_of_cell? w _ hw129_0)).trans hw129_0), ((HB.out.cell (World.block_lt_of_cell? w _ hw129_1)).trans hw129_1), ((HB.out.cell (World.block_lt_of_cell? w _ hw129_2)).trans hw129_2), ((HB.out.cell (World.block_lt_of_cell? w _ hw129_3)).trans hw129_3), ((HB.out.cell (World.block_lt_of_cell? w _ hw129_4)).trans hw129_4)⟩ (fun hHeld => ?_)
             clear hK K
             refine norm_ (a' := ?_) ?_ ?_
             rotate_left
             · show Act.put _ (some 25) _ = _
               simp only [Act.put, List.setIfInBounds_toArray, List.set_cons_zero, List.set_cons_succ, i64_w, i32_w]
               rfl
             refine pure_ (i := 9) (N := some 26) (v := ?_) (a' := ?_) #[true, true, true, true, true, true, true, true, true, true] rfl rfl (any_of HT_.out (by kernel_rfl)) (fun _ _ _ h => h) (Or.inl ⟨by rfl, ?_⟩) ?_ ?_
             rotate_left
             · intro w'
               go_simp
               with_reducible rfl
             rotate_left
             · simp only [Act.put, List.setIfInBounds_toArray, List.set_cons_zero, List.set_cons_succ, i64_w, i32_w]
               rfl
             refine done_ (done_of HT_.out (by kernel_rfl)) ?_
             try go_wp2
             go_ret
             exact ⟨by first | rfl | (simp [errW_none, errW_some] <;> rfl) | (simp [*, errW_none, errW_some] <;> rfl), by repeat (first | (with_reducible first | exact HB.out | apply below_alloc | apply pw_below_drewN | apply below_drew1) | exact HB.out)⟩
         · rw [if_neg c6] at H
           exact absurd H (by simp)
       · rw [if_neg c5] at H
         exact absurd H (by simp)
     · rw [if_neg c4] at H
       have c4b0 : decide (x5_1 < (l0.length : Int)) = false := decide_eq_false c4
       clear c4
       obtain rfl := Option.some.inj H
       go_wp2
       go_ret
       exact ⟨by first | rfl | (simp [errW_none, errW_some] <;> rfl) | (simp [*, errW_none, errW_some] <;> rfl), by repeat (first | (with_reducible first | exact HB.out | apply below_alloc | apply pw_below_drewN | apply below_drew1) | exact HB.out)⟩
 · rw [if_neg c3] at H
   have c3b0 : ((l0.length : Int) == (l1.length : Int)) = false := beq_eq_false_iff_ne.mpr c3
   have c3b1 : ((l0.length : Int) != (l1.length : Int)) = true := bne_iff_ne.mpr c3
   have c3b2 : (l0.length == l1.length) = false := by first | simpa using c3 | (simp at c3 ⊢; omega)
   obtain rfl := Option.some.inj H
   go_enter Try.func29, Try.ntmps29
   go_wp2
   go_ret
   exact ⟨by first | rfl | (simp [errW_none, errW_some] <;> rfl) | (simp [*, errW_none, errW_some] <;> rfl), by repeat (first | (with_reducible first | exact HB.out | apply below_alloc | apply pw_below_drewN | apply below_drew1) | exact HB.out)⟩
end Go.Proofs.Ytillfbohengpaaa.PA
end
section
namespace Go.Proofs.Ytillfbohengpaaa.PA
open Go.RowKit Go.Proofs.YtillfbohengpaaaW.PrintWords Go.Proofs.YtillfbohengpaaaW.PrintLast Go.Proofs.YtillfbohengpaaaW.PrintMore
attribute [local go_sem] max2_int min2_int max_two min_two max_three min_three max_four min_four   -- for this text's walks alone
set_option linter.unusedVariables false
set_option linter.unusedSimpArgs false
def testamurref08_Few.l0 : Nat → List (S52) → Int → Option (Bool)
 | 0, _, _ => none
 | k + 1, x0, x3 => if x3 < (x0.length : Int) then (if 0 ≤ x3 then (if (((rd_T52 x0 x3).f4).length : Int) > 70 then (some false) else (testamurref08_Few.l0 k x0 (wrap64 (x3 + 1)))) else (none)) else (some (decide ((x0.length : Int) ≤ 10)))
def testamurref08_Few.f (k : Nat) (l0 : List (S52)) : Option (Bool) := testamurref08_Few.l0 k l0 0
set_option maxHeartbeats 8000000 in
set_option maxRecDepth 100000 in
theorem testamurref08_Few.calls (k : Nat) (A0 : Option Addr) (c0 : Nat) (l0 : List (S52)) (r : Bool) (w : World) (hr0 : Kd.C k52 w A0 l0.length l0) (hc0 : l0.length ≤ c0) (h : testamurref08_Few.f k l0 = some r) :
 Calls Try.prog 24 #[.slice A0 l0.length c0] w fun e w' => e = .returned (.bool r) ∧ Drawn0 w w' := by
 have HR0 := Aside0.mk hr0
 have HC0 := Aside0.mk hc0
 clear hr0 hc0
 have H : (testamurref08_Few.l0 k l0 0) = some r := h
 clear h
 have H' := Aside0.mk H
 clear H
 go_enter Try.func24, Try.ntmps24
 go_wp2
 go_loopg [3] k (fun kq v3 w' => ∃ (x3_1 : Int), v3 = .int .i64 x3_1 ∧ Aside0 (testamurref08_Few.l0 kq l0 x3_1 = some r) ∧ Aside0 (kq ≤ k) ∧ Drawn0 w w')
 case atStart => exact ⟨(0), (by first | rfl | (simp; done) | (simp [*]; done)), H', ⟨Nat.le_refl _⟩, by repeat (first | exact Drawn0.refl _ | apply Drawn0.step)⟩
 case round =>
  clear H'
  obtain ⟨x3_1, rfl, HA, HK1, ⟨m1, rfl⟩⟩ := hrel
  cases gk with
  | zero => exact absurd HA.out (by simp [testamurref08_Few.l0])
  | succ k1 =>
   have H := HA.out
   clear HA
   simp only [testamurref08_Few.l0] at H
   by_cases c2 : x3_1 < (l0.length : Int)
   · rw [if_pos c2] at H
     have c2b0 : decide (x3_1 < (l0.length : Int)) = true := decide_eq_true c2
     clear c2
     by_cases c3 : 0 ≤ x3_1
     · rw [if_pos c3] at H
       have c3b0 : decide (0 ≤ x3_1) = true := decide_eq_true c3
       clear c3
       by_cases c4 : (((rd_T52 l0 x3_1).f4).length : Int) > 70
       · rw [if_pos c4] at H
         have c4b0 : decide (70 < (((rd_T52 l0 x3_1).f4).length : Int)) = true := decide_eq_true c4
         have c4b1 : decide (70 < ((rd_T52 l0 x3_1).f4).length) = true := decide_eq_true (by omega)
         clear c4
         obtain rfl := Option.some.inj H
         have p101 : 0 ≤ (x3_1 : Int) := of_decide_eq_true (by first | (with_reducible assumption) | assumption)
         have q101 : x3_1 < (l0.length : Int) := of_decide_eq_true (by first | (with_reducible assumption) | assumption)
         obtain ⟨ad101, A101_4, c101_4, e101, hx101_0, hx101_1, hx101_2, hx101_3, hx101_4, hl101_4, hi101_4⟩ := at_T52 HR0.out x3_1 p101 q101
         cases e101
         have HR101_4 := Aside0.mk hi101_4
         have HC101_4 := Aside0.mk hl101_4
         clear hi101_4 hl101_4
         replace p101 := eq_true p101
         replace q101 := eq_true q101
         go_wp2
         go_ret
         exact ⟨by first | rfl | (simp; done) | (simp [*]; done), by repeat (first | exact Drawn0.refl _ | apply Drawn0.step)⟩
       · rw [if_neg c4] at H
         have c4b0 : decide (70 < (((rd_T52 l0 x3_1).f4).length : Int)) = false := decide_eq_false c4
         have c4b1 : decide (70 < ((rd_T52 l0 x3_1).f4).length) = false := decide_eq_false (by omega)
         clear c4
         have H' := Aside0.mk H
         clear H
         have p101 : 0 ≤ (x3_1 : Int) := of_decide_eq_true (by first | (with_reducible assumption) | assumption)
         have q101 : x3_1 < (l0.length : Int) := of_decide_eq_true (by first | (with_reducible assumption) | assumption)
         obtain ⟨ad101, A101_4, c101_4, e101, hx101_0, hx101_1, hx101_2, hx101_3, hx101_4, hl101_4, hi101_4⟩ := at_T52 HR0.out x3_1 p101 q101
         cases e101
         have HR101_4 := Aside0.mk hi101_4
         have HC101_4 := Aside0.mk hl101_4
         clear hi101_4 hl101_4
         replace p101 := eq_true p101
         replace q101 := eq_true q101
         go_wp2
         go_roundg k1
         case measure => have := HK1.out; omega
         case rel => exact ⟨(wrap64 (x3_1 + 1)), (by first | rfl | (simp; done) | (simp [*]; done)), H', ⟨by have := HK1.out; omega⟩, by repeat (first | exact Drawn0.refl _ | apply Drawn0.step)⟩
     · rw [if_neg c3] at H
       exact absurd H (by simp)
   · rw [if_neg c2] at H
     have c2b0 : decide (x3_1 < (l0.length : Int)) = false := decide_eq_false c2
     clear c2
     obtain rfl := Option.some.inj H
     go_wp2
     go_ret
     exact ⟨by first | rfl | (simp; done) | (simp [*]; done), by repeat (first | exact Drawn0.refl _ | apply Drawn0.step)⟩
end Go.Proofs.Ytillfbohengpaaa.PA
end
section
namespace Go.Proofs.Ytillfbohengpaaa.PA
open Go.RowKit Go.Proofs.YtillfbohengpaaaW.PrintWords Go.Proofs.YtillfbohengpaaaW.PrintLast Go.Proofs.YtillfbohengpaaaW.PrintMore
attribute [local go_sem] max2_int min2_int max_two min_two max_three min_three max_four min_four   -- for this text's walks alone
set_option linter.unusedVariables false
set_option linter.unusedSimpArgs false
end Go.Proofs.Ytillfbohengpaaa.PA
end
section
namespace Go.Proofs.Ytillfbohengpaaa.PA
open Go.RowKit Go.Proofs.YtillfbohengpaaaW.PrintWords Go.Proofs.YtillfbohengpaaaW.PrintLast Go.Proofs.YtillfbohengpaaaW.PrintMore
attribute [local go_sem] max2_int min2_int max_two min_two max_three min_three max_four min_four   -- for this text's walks alone
set_option linter.unusedVariables false
set_option linter.unusedSimpArgs false
end Go.Proofs.Ytillfbohengpaaa.PA
end
section
set_option linter.unusedVariables false
set_option linter.unusedSimpArgs false
namespace Go.Proofs.Ytillfbohengpaaa
open Go.RowKit Gf Go.Proofs.YtillfbohengpaaaW.PrintWords PA
theorem xor_tI (a b : G) : Go.bits .xor .u8 (tI a) (tI b) = tI (a ^^^ b) := bits_xor_g a b
theorem mul_f (a b : G) : testamurref07_Mul.f (tI a) (tI b) = some (tI (mul a b)) := by
  unfold testamurref07_Mul.f
  rw [if_pos ⟨okB_tI a, okB_tI b⟩, gI_tI, gI_tI]
theorem inv_f (a : G) : testamurref07_Inv.f (tI a) = some (tI (invR a).1, (invR a).2) := by
  unfold testamurref07_Inv.f
  rw [if_pos (okB_tI a), gI_tI]
theorem over_f (a b : G) : testamurref07_over.f (tI a) (tI b) = some (tI (over a b)) := by
  unfold testamurref07_over.f
  rw [inv_f]
  simp only [Option.bind_some]
  rw [mul_f, invR_fst]
  rfl
theorem fuel {k d : Nat} (h : d < k) : ∃ m, k = m + 1 := ⟨k - 1, by omega⟩
theorem evalr_l (l : List G) (x : G) (hl : l.length ≤ 100000) : ∀ d i k, i + d = l.length → d < k → testamurref07_Eval.l0 k (l.map tI) (tI x) (tI (evTo l x i)) (tI (pws x i)) (i : Int) = some (tI (ev l x)) := by
  intro d
  induction d with
  | zero =>
    intro i k hi hk
    obtain ⟨k, rfl⟩ := fuel hk
    simp only [testamurref07_Eval.l0]
    rw [if_neg (by rw [List.length_map]; omega)]
    obtain rfl : i = l.length := by omega
    rw [evTo_all]
  | succ d ih =>
    intro i k hi hk
    obtain ⟨k, rfl⟩ := fuel hk
    simp only [testamurref07_Eval.l0]
    rw [if_pos (by rw [List.length_map]; omega), if_pos (by omega), rd_map _ _ (by omega), mul_f]
    simp only [Option.bind_some]
    rw [mul_f]
    simp only [Option.bind_some]
    rw [xor_tI, w64 _ (by omega) (by omega)]
    exact ih (i + 1) k (by omega) (by omega)
theorem evalr_f (l : List G) (x : G) (hl : l.length ≤ 100000) (k : Nat) (hk : l.length < k) : testamurref07_Eval.f k (l.map tI) (tI x) = some (tI (ev l x)) := by
  unfold testamurref07_Eval.f
  exact evalr_l l x hl l.length 0 k (by omega) hk
theorem points_l (xs : List G) (hd : xs.Nodup) (hl : xs.length ≤ 1000) : ∀ d i k, i + d = xs.length → d + (xs.length + 1) * d < k → testamurref07_Points.l0 k (xs.map tI) (i : Int) = some true := by
  intro d
  induction d with
  | zero =>
    intro i k hi hk
    obtain ⟨k, rfl⟩ : ∃ m, k = m + 1 := ⟨k - 1, by omega⟩
    simp only [testamurref07_Points.l0]
    rw [if_neg (by rw [List.length_map]; omega)]
  | succ d ih =>
    intro i k hi hk
    obtain ⟨k, rfl⟩ : ∃ m, k = m + 1 := ⟨k - 1, by omega⟩
    simp only [testamurref07_Points.l0]
    rw [if_pos (by rw [List.length_map]; omega)]
    have inner : ∀ e j k, j + e = i → e + d + (xs.length + 1) * d + 1 < k → testamurref07_Points.l1 k (xs.map tI) (i : Int) (j : Int) = some true := by
      intro e
      induction e with
      | zero =>
        intro j k hj hk
        obtain ⟨k, rfl⟩ : ∃ m, k = m + 1 := ⟨k - 1, by omega⟩
        simp only [testamurref07_Points.l1]
        rw [if_neg (by omega), w64 _ (by omega) (by omega)]
        exact ih (i + 1) k (by omega) (by omega)
      | succ e ihe =>
        intro j k hj hk
        obtain ⟨k, rfl⟩ : ∃ m, k = m + 1 := ⟨k - 1, by omega⟩
        simp only [testamurref07_Points.l1]
        rw [if_pos (by omega), if_pos (by omega), if_pos (by rw [List.length_map]; omega), if_pos (by omega), if_pos (by rw [List.length_map]; omega), rd_map _ _ (by omega), rd_map _ _ (by omega), if_neg (fun e => g_ne xs hd j i (by omega) (by omega) (by omega) (tI_inj e)), w64 _ (by omega) (by omega)]
        exact ihe (j + 1) k (by omega) (by omega)
    refine inner i 0 k (by omega) ?_
    have : (xs.length + 1) * (d + 1) = (xs.length + 1) * d + (xs.length + 1) := Nat.mul_succ _ _
    omega
theorem points_f (xs ys : List G) (hd : xs.Nodup) (hl : xs.length ≤ 1000) (he : xs.length = ys.length) (k : Nat) (hk : 1100000 < k) : testamurref07_Points.f k (xs.map tI) (ys.map tI) = some true := by
  unfold testamurref07_Points.f
  rw [if_pos (by simp [he])]
  refine points_l xs hd hl xs.length 0 k (by omega) ?_
  have : (xs.length + 1) * xs.length ≤ 1001 * 1000 := Nat.mul_le_mul (by omega) hl
  omega
end Go.Proofs.Ytillfbohengpaaa
end
section
set_option linter.unusedVariables false
set_option linter.unusedSimpArgs false
namespace Go.Proofs.Ytillfbohengpaaa
open Go.RowKit Gf Go.Proofs.YtillfbohengpaaaW.PrintWords PA
def fewB (L : List Sh) : Bool := L.all (fun s => decide (s.da.length ≤ 70)) && decide (L.length ≤ 10)
theorem few_l (L : List Sh) (hl : L.length ≤ 9223372036854775807) : ∀ d i k, i + d = L.length → d < k → testamurref08_Few.l0 k (L.map sI) (i : Int) = some ((L.drop i).all (fun s => decide (s.da.length ≤ 70)) && decide (L.length ≤ 10)) := by
  intro d
  induction d with
  | zero =>
    intro i k hi hk
    obtain ⟨k, rfl⟩ := fuel hk
    simp only [testamurref08_Few.l0]
    rw [if_neg (by rw [List.length_map]; omega), List.drop_eq_nil_of_le (by omega), List.length_map]
    congr 1
    simp
    omega
  | succ d ih =>
    intro i k hi hk
    obtain ⟨k, rfl⟩ := fuel hk
    have hil : i < L.length := by omega
    simp only [testamurref08_Few.l0]
    rw [if_pos (by rw [List.length_map]; omega), if_pos (by omega), rdT_map L i hil, List.drop_eq_getElem_cons hil, List.all_cons]
    simp only [sI, List.length_map]
    by_cases h : (L[i].da.length : Int) > 70
    · rw [if_pos h, show decide (L[i].da.length ≤ 70) = false from decide_eq_false (by omega)]; rfl
    · rw [if_neg h, show decide (L[i].da.length ≤ 70) = true from decide_eq_true (by omega), w64 _ (by omega) (by omega), Bool.true_and]
      exact ih (i + 1) k (by omega) (by omega)
theorem few_f (L : List Sh) (hl : L.length ≤ 9223372036854775807) (k : Nat) (hk : L.length < k) : testamurref08_Few.f k (L.map sI) = some (fewB L) := by
  unfold testamurref08_Few.f fewB
  exact few_l L hl L.length 0 k (by omega) hk
theorem few_spec {L : List Sh} (h : fewB L = true) : L.length ≤ 10 ∧ ∀ s ∈ L, s.da.length ≤ 70 := by
  simp only [fewB, Bool.and_eq_true, decide_eq_true_eq, List.all_eq_true] at h
  exact ⟨h.2, h.1⟩
theorem ralike_f (L : List Sh) : testamurref08_alike.f (L.map sI) = some (alikeB L) := by
  unfold testamurref08_alike.f
  rw [if_pos (okS_sI L), shG_map]
theorem rcheck_l (a : Sh) (r : List Sh) (hl : (a :: r).length ≤ 9223372036854775807) : ∀ d i k, i + d = (a :: r).length → d < k → testamurref08_Check.l0 k ((a :: r).map sI) (i : Int) = some (epR (epsB a ((a :: r).drop i))) := by
  intro d
  induction d with
  | zero =>
    intro i k hi hk
    obtain ⟨k, rfl⟩ := fuel hk
    simp only [testamurref08_Check.l0]
    rw [if_neg (by rw [List.length_map]; omega), List.drop_eq_nil_of_le (by omega)]
    rfl
  | succ d ih =>
    intro i k hi hk
    obtain ⟨k, rfl⟩ := fuel hk
    have hil : i < (a :: r).length := by omega
    have h0 := rdT_map (a :: r) 0 (by simp)
    have hz : rd_T52 ((a :: r).map sI) 0 = sI a := h0
    simp only [testamurref08_Check.l0]
    rw [if_pos (by rw [List.length_map]; omega), if_pos (by omega), if_pos (by rw [List.length_map]; simp <;> omega), rdT_map _ i hil, hz, List.drop_eq_getElem_cons hil]
    have hI := ih (i + 1) k (by omega) (by omega)
    generalize (a :: r)[i] = s at *
    have hcons : epsB a (s :: (a :: r).drop (i + 1)) = (epOk a s && epsB a ((a :: r).drop (i + 1))) := rfl
    rw [hcons]
    by_cases h1 : s.ep = a.ep
    · rw [if_pos (show (sI s).f0 = (sI a).f0 from h1)]
      by_cases h2 : s.ep < 0
      · rw [if_pos (show (sI s).f0 < 0 from h2), show epOk a s = false from by simp [epOk, h1]; omega]; rfl
      · rw [if_neg (show ¬ (sI s).f0 < 0 from h2)]
        by_cases h3 : s.ep > 1048576
        · rw [if_pos (show (sI s).f0 > 1048576 from h3), show epOk a s = false from by simp [epOk, h1]; omega]; rfl
        · rw [if_neg (show ¬ (sI s).f0 > 1048576 from h3), show epOk a s = true from by simp [epOk, h1]; omega, Bool.true_and, w64 _ (by omega) (by omega)]
          exact hI
    · rw [if_neg (show ¬ (sI s).f0 = (sI a).f0 from h1), show epOk a s = false from by simp [epOk, h1]]; rfl
theorem rcheck_f (L : List Sh) (hl : L.length ≤ 9223372036854775807) (k : Nat) (hk : L.length < k) : testamurref08_Check.f k (L.map sI) = some (checkR L) := by
  unfold testamurref08_Check.f
  rw [ralike_f]
  simp only [Option.bind_some]
  cases L with
  | nil => rfl
  | cons a r =>
    rw [checkR_cons]
    by_cases h : alikeB (a :: r) = true
    · rw [if_pos h, if_pos h]
      exact rcheck_l a r hl _ 0 k (by simp) hk
    · rw [if_neg h, if_neg h]
theorem rpts_l (L : List Sh) (at_ : Nat) (h : ∀ s ∈ L, at_ < s.da.length) (hl : L.length ≤ 100000) : ∀ d i k, i + d = L.length → d < k →
    testamurref08_points.l0 k (L.map sI) (at_ : Int) ((xsG (L.take i)).map tI) ((ysG (L.take i) at_).map tI) (i : Int) = some ((xsG L).map tI, (ysG L at_).map tI) := by
  intro d
  induction d with
  | zero =>
    intro i k hi hk
    obtain ⟨k, rfl⟩ := fuel hk
    simp only [testamurref08_points.l0]
    rw [if_neg (by rw [List.length_map]; omega), List.take_of_length_le (by omega)]
  | succ d ih =>
    intro i k hi hk
    obtain ⟨k, rfl⟩ := fuel hk
    have hil : i < L.length := by omega
    have hm := h L[i] (List.getElem_mem hil)
    simp only [testamurref08_points.l0]
    rw [if_pos (by rw [List.length_map]; omega), if_pos (by omega), if_pos (by simp [xsG]; omega), rdT_map L i hil, if_pos (by omega), if_pos (by simp [sI]; omega), if_pos (by simp [ysG]; omega)]
    simp only [sI]
    rw [rd_map _ _ hm, w64 _ (by omega) (by omega)]
    have h1 : (xsG (L.take i)).map tI ++ [L[i].ix % 256] = (xsG (L.take (i + 1))).map tI := by
      unfold xsG
      rw [take_succ_map _ _ _ hil, List.map_append, ← tI_gI_mod]; rfl
    have h2 : (ysG (L.take i) at_).map tI ++ [tI (g L[i].da at_)] = (ysG (L.take (i + 1)) at_).map tI := by
      unfold ysG
      rw [take_succ_map _ _ _ hil, List.map_append]; rfl
    rw [h1, h2]
    exact ih (i + 1) k (by omega) (by omega)
theorem rpts_f (L : List Sh) (at_ : Nat) (h : ∀ s ∈ L, at_ < s.da.length) (hl : L.length ≤ 100000) (k : Nat) (hk : L.length < k) :
    testamurref08_points.f k (L.map sI) (at_ : Int) = some ((xsG L).map tI, (ysG L at_).map tI) := by
  unfold testamurref08_points.f
  exact rpts_l L at_ h hl L.length 0 k (by omega) hk
end Go.Proofs.Ytillfbohengpaaa
end
section
namespace Go.Proofs.Ytillfbohengpaaa.PA
open Go.RowKit Go.Proofs.YtillfbohengpaaaW.PrintWords Go.Proofs.YtillfbohengpaaaW.PrintLast Go.Proofs.YtillfbohengpaaaW.PrintMore
attribute [local go_sem] max2_int min2_int max_two min_two max_three min_three max_four min_four   -- for this text's walks alone
set_option linter.unusedVariables false
set_option linter.unusedSimpArgs false
def shares_Split.f (l0 : List Int) (a1 a2 a3 : Int) (l4 : List Int) : Option (List S52 × Int) :=
 if isB l0 = true ∧ isB l4 = true ∧ l0.length ≤ 100000 ∧ l4.length ≤ 100000 then
  (if splitErr l0.length l4.length a1 a2 a3 = 0 then some ((splitTo (l0.map gI) (l4.map gI) a1 (a2 - 1).toNat a3.toNat a3.toNat).map sI, 0) else some ([], splitErr l0.length l4.length a1 a2 a3))
 else none
theorem shares_Split.calls (A0 : Option Addr) (c0 : Nat) (l0 : List Int) (a1 a2 a3 : Int) (A4 : Option Addr) (c4 : Nat) (l4 : List Int) (r1 : List S52) (r2 : Int) (w : World) (hr0 : Kd.C (Kd.int .u8) w A0 l0.length l0) (hc0 : l0.length ≤ c0) (hr4 : Kd.C (Kd.int .u8) w A4 l4.length l4) (hc4 : l4.length ≤ c4) (h : shares_Split.f l0 a1 a2 a3 l4 = some (r1, r2)) :
 Calls Try.prog 25 #[.slice A0 l0.length c0, .int .i64 a1, .int .i64 a2, .int .i64 a3, .slice A4 l4.length c4] w fun e w' => ∃ v0_ : Value, e = .returned (.tuple #[v0_, .int .i64 r2]) ∧ Kd.S k52 52 w' w.heap.size (fun _ => True) v0_ r1 ∧ Below w.heap.size w w' := by
 unfold shares_Split.f at h
 split at h
 case isFalse => cases h
 rename_i ho
 obtain ⟨h0, h4, hn, hn2⟩ := ho
 obtain ⟨l, rfl⟩ := ex_isB h0
 obtain ⟨r, rfl⟩ := ex_isB h4
 rw [gI_map, gI_map] at h
 have hl := rl_of_C hr0
 have hr := rl_of_C hr4
 by_cases he : splitErr (l.map tI).length (r.map tI).length a1 a2 a3 = 0
 · rw [if_pos he] at h
   injection h with h
   injection h with e1 e2
   subst e1 e2
   have he' := he
   unfold splitErr at he'
   by_cases q1 : 64 < (l.map tI).length
   · rw [if_pos q1] at he'; cases he'
   rw [if_neg q1] at he'
   by_cases q2 : a2 < 1 ∨ a3 < a2 ∨ 8 < a3
   · rw [if_pos q2] at he'; cases he'
   rw [if_neg q2] at he'
   by_cases q3 : a1 < 0 ∨ 1048576 < a1
   · rw [if_pos q3] at he'; cases he'
   rw [if_neg q3] at he'
   by_cases q4 : ((r.map tI).length : Int) ≠ ((l.map tI).length : Int) * (a2 - 1)
   · rw [if_pos q4] at he'; cases he'
   obtain ⟨m, rfl⟩ : ∃ m : Nat, a2 = (m : Int) + 1 := ⟨(a2 - 1).toNat, by omega⟩
   obtain ⟨mn, rfl⟩ : ∃ mn : Nat, a3 = (mn : Int) := ⟨a3.toNat, by omega⟩
   have q5 : (r.map tI).length = (l.map tI).length * m := by
    have : ((m : Int) + 1 - 1) = (m : Int) := by omega
    rw [this] at q4
    have e := Decidable.of_not_not q4
    have e2 : (((l.map tI).length : Int)) * (m : Int) = (((l.map tI).length * m : Nat) : Int) := by simp
    rw [e2] at e
    omega
   refine (split_ok A0 A4 _ c0 _ c4 mn m l r a1 w hl hr hc4 (by omega) (by omega) (by omega) (by omega) (by omega) q5).mono ?_
   rintro e w' ⟨⟨v, rfl, hs⟩, hb⟩
   rw [show ((m : Int) + 1 - 1).toNat = m from by omega, Int.toNat_natCast]
   exact ⟨v, rfl, hs, hb⟩
 · rw [if_neg he] at h
   injection h with h
   injection h with e1 e2
   subst e1 e2
   refine (split_bad A0 A4 _ c0 _ c4 l r a1 a2 a3 w hl hr hn (by omega) _ rfl he).mono ?_
   rintro e w' ⟨⟨v, rfl, hs⟩, hb⟩
   exact ⟨v, rfl, hs, hb⟩
end Go.Proofs.Ytillfbohengpaaa.PA
end
section
set_option linter.unusedVariables false
set_option linter.unusedSimpArgs false
namespace Go.Proofs.Ytillfbohengpaaa
open Go.RowKit Gf Go.Proofs.YtillfbohengpaaaW.PrintWords PA
theorem sameshare_f (s : S52) : testamurref08_SameShare.f s.f0 s.f1 s.f2 s.f3 s.f4 s.f0 s.f1 s.f2 s.f3 s.f4 = some true := by
  unfold testamurref08_SameShare.f
  rw [if_pos rfl, if_pos rfl, if_pos rfl, if_pos rfl, beq_self_eq_true]
theorem same_l (L : List S52) (hl : L.length ≤ 9223372036854775807) : ∀ d i k, i + d = L.length → d < k → testamurref08_Same.l0 k L L (i : Int) = some true := by
  intro d
  induction d with
  | zero =>
    intro i k hi hk
    obtain ⟨k, rfl⟩ := fuel hk
    simp only [testamurref08_Same.l0]
    rw [if_neg (by omega)]
  | succ d ih =>
    intro i k hi hk
    obtain ⟨k, rfl⟩ := fuel hk
    simp only [testamurref08_Same.l0]
    rw [if_pos (by omega), if_pos (by omega), if_pos (by omega), sameshare_f]
    simp only [Option.bind_some]
    rw [if_pos trivial, w64 _ (by omega) (by omega)]
    exact ih (i + 1) k (by omega) (by omega)
theorem same_f (L : List S52) (hl : L.length ≤ 9223372036854775807) (k : Nat) (hk : L.length < k) : testamurref08_Same.f k L L = some true := by
  unfold testamurref08_Same.f
  rw [if_pos rfl]
  exact same_l L hl L.length 0 k (by omega) hk
theorem ofNat_tI (i : Nat) (h : i ≤ 8) : ((i : Int) % 256) = tI (BitVec.ofNat 8 i) := by unfold tI; simp
theorem wmul (a m p : Nat) (h : p = a * m) (hp : p ≤ 1000000) : wrap64 ((a : Int) * (m : Int)) = (p : Int) := by
  have e : (a : Int) * (m : Int) = (p : Int) := by rw [h, Int.natCast_mul]
  rw [e]; exact w64 _ (by omega) (by omega)
theorem wsucc (a : Nat) (h : a ≤ 1000000) : wrap64 ((a : Int) + 1) = ((a + 1 : Nat) : Int) := by
  rw [w64 _ (by omega) (by omega)]; simp
theorem wpred (m : Nat) (h : m ≤ 1000000) : wrap64 ((m : Int) + 1 - 1) = (m : Int) := by
  rw [w64 _ (by omega) (by omega)]; omega
theorem line_map (l r : List G) (m at_ p : Nat) (hp : p = at_ * m) (ha : at_ < l.length) : [rd (l.map tI) (at_ : Int)] ++ (((r.map tI).take (p + m)).drop p) = (lineG l r m at_).map tI := by
  rw [rd_map _ _ ha, ← List.map_take, ← List.map_drop, List.drop_take, show p + m - p = m from by omega, hp]
  rfl
theorem rsplit_l1 (l r : List G) (ep : Int) (m mn i : Nat) (acc : List S52) (R : Option (List S52 × Int)) (K0 : Nat) (hl : l.length ≤ 64) (hm : m ≤ 7) (hi : i ≤ 8) (hr : r.length = l.length * m) (hr5 : r.length ≤ 500) (hacc : acc.length ≤ 100)
    (hK : ∀ k, K0 ≤ k → testamurref08_Split.l0 k (l.map tI) ep ((m : Int) + 1) (mn : Int) (r.map tI) (acc ++ [(⟨ep, (i : Int), (m : Int) + 1, (mn : Int), (dataG l r m i).map tI⟩ : S52)]) ((i : Int) + 1) = R) :
    ∀ d at_ k, at_ + d = l.length → d + K0 + 1000 < k → testamurref08_Split.l1 k (l.map tI) ep ((m : Int) + 1) (mn : Int) (r.map tI) acc (i : Int) (at_ : Int) ep (i : Int) ((m : Int) + 1) (mn : Int) (((List.range at_).map fun j => ev (lineG l r m j) (BitVec.ofNat 8 i)).map tI) = R := by
  intro d
  induction d with
  | zero =>
    intro at_ k ha hk
    obtain ⟨k, rfl⟩ : ∃ q, k = q + 1 := ⟨k - 1, by omega⟩
    simp only [testamurref08_Split.l1]
    rw [if_neg (by rw [List.length_map]; omega), if_pos (by omega), w64 _ (by omega) (by omega)]
    obtain rfl : at_ = l.length := by omega
    exact hK k (by omega)
  | succ d ih =>
    intro at_ k ha hk
    obtain ⟨k, rfl⟩ : ∃ q, k = q + 1 := ⟨k - 1, by omega⟩
    have hat : at_ < l.length := by omega
    have hb2 : (at_ + 1) * m ≤ r.length := by rw [hr]; exact Nat.mul_le_mul_right _ hat
    have hb3 : (at_ + 1) * m = at_ * m + m := by rw [Nat.add_mul, Nat.one_mul]
    obtain ⟨p, hp⟩ : ∃ p, p = at_ * m := ⟨_, rfl⟩
    rw [← hp] at hb3
    rw [hb3] at hb2
    clear hr
    have hp3 : p ≤ 1000000 := by omega
    have hp4 : p + m ≤ 1000000 := by omega
    simp only [testamurref08_Split.l1]
    rw [if_pos (by rw [List.length_map]; omega), if_pos (by omega)]
    simp only [Option.bind_some, wpred m (by omega), wsucc at_ (by omega), wmul at_ m p hp hp3, wmul (at_ + 1) m (p + m) hb3.symm hp4, Int.toNat_natCast]
    clear hb3
    rw [if_pos (by omega), if_pos (by omega), if_pos (by rw [List.length_map]; omega), if_pos (by simp only [List.length_cons, List.length_nil, List.length_drop, List.length_take, List.length_map]; omega), line_map l r m at_ p hp hat, ofNat_tI i hi, evalr_f _ _ (by simp [lineG]; omega) k (by simp [lineG]; omega)]
    simp only [Option.bind_some]
    rw [if_pos (by simp; omega)]
    have h1 : ((List.range at_).map fun j => ev (lineG l r m j) (BitVec.ofNat 8 i)).map tI ++ [tI (ev (lineG l r m at_) (BitVec.ofNat 8 i))] = ((List.range (at_ + 1)).map fun j => ev (lineG l r m j) (BitVec.ofNat 8 i)).map tI := by
      rw [List.range_succ, List.map_append, List.map_append]; rfl
    rw [h1]
    exact ih (at_ + 1) k (by omega) (by clear hp hb2 hp3 hp4; omega)
theorem rsplit_l0 (l r : List G) (ep : Int) (m mn : Nat) (hl : l.length ≤ 64) (hm : m ≤ 7) (hmn : mn ≤ 8) (hr : r.length = l.length * m) : ∀ d i k, i + d = mn → (d + 1) * 2000 < k →
    testamurref08_Split.l0 k (l.map tI) ep ((m : Int) + 1) (mn : Int) (r.map tI) ((splitTo l r ep m mn i).map sI) ((i : Int) + 1) = some ((splitTo l r ep m mn mn).map sI, 0) := by
  intro d
  induction d with
  | zero =>
    intro i k hi hk
    obtain ⟨k, rfl⟩ : ∃ q, k = q + 1 := ⟨k - 1, by omega⟩
    simp only [testamurref08_Split.l0]
    rw [if_neg (by omega)]
    obtain rfl : i = mn := by omega
    rfl
  | succ d ih =>
    intro i k hi hk
    obtain ⟨k, rfl⟩ : ∃ q, k = q + 1 := ⟨k - 1, by omega⟩
    simp only [testamurref08_Split.l0]
    rw [if_pos (by omega)]
    have := rsplit_l1 l r ep m mn (i + 1) ((splitTo l r ep m mn i).map sI) (some ((splitTo l r ep m mn mn).map sI, 0)) ((d + 1) * 2000 + 1) hl hm (by omega) hr (by rw [hr]; exact Nat.le_trans (Nat.mul_le_mul hl hm) (by decide)) (by simp [splitTo]; omega) (fun k hk => by
      have := ih (i + 1) k (by omega) (Nat.lt_of_succ_le hk)
      rw [splitTo_succ, List.map_append] at this
      exact this) l.length 0 k (by omega) (by omega)
    exact this
theorem splitErr_zero {len coins : Nat} {ep th mn : Int} (h : splitErr len coins ep th mn = 0) : len ≤ 64 ∧ ∃ m n : Nat, th = (m : Int) + 1 ∧ mn = (n : Int) ∧ m + 1 ≤ n ∧ n ≤ 8 ∧ 0 ≤ ep ∧ ep ≤ 1048576 ∧ coins = len * m := by
  unfold splitErr at h
  by_cases q1 : 64 < len
  · rw [if_pos q1] at h; cases h
  rw [if_neg q1] at h
  by_cases q2 : th < 1 ∨ mn < th ∨ 8 < mn
  · rw [if_pos q2] at h; cases h
  rw [if_neg q2] at h
  by_cases q3 : ep < 0 ∨ 1048576 < ep
  · rw [if_pos q3] at h; cases h
  rw [if_neg q3] at h
  by_cases q4 : (coins : Int) ≠ (len : Int) * (th - 1)
  · rw [if_pos q4] at h; cases h
  refine ⟨by omega, (th - 1).toNat, mn.toNat, by omega, by omega, by omega, by omega, by omega, by omega, ?_⟩
  have e := Decidable.of_not_not q4
  have e2 : (len : Int) * (th - 1) = ((len * (th - 1).toNat : Nat) : Int) := by
    rw [Int.natCast_mul]; congr 1; omega
  omega
def splitV (l r : List G) (ep th mn : Int) : List Sh × Int := if splitErr l.length r.length ep th mn = 0 then (splitTo l r ep (th - 1).toNat mn.toNat mn.toNat, 0) else ([], splitErr l.length r.length ep th mn)
theorem split_f (l r : List G) (ep th mn : Int) (hl : l.length ≤ 100000) (hr : r.length ≤ 100000) : shares_Split.f (l.map tI) ep th mn (r.map tI) = some ((splitV l r ep th mn).1.map sI, (splitV l r ep th mn).2) := by
  unfold shares_Split.f splitV
  rw [if_pos ⟨isB_tI l, isB_tI r, by rw [List.length_map]; exact hl, by rw [List.length_map]; exact hr⟩, gI_map, gI_map, List.length_map, List.length_map]
  by_cases h : splitErr l.length r.length ep th mn = 0
  · rw [if_pos h, if_pos h]
  · rw [if_neg h, if_neg h]; rfl
theorem rsplit_f (l r : List G) (ep th mn : Int) (hl : l.length ≤ 100000) (hr : r.length ≤ 100000) (hth : -9223372036854775808 ≤ th ∧ th ≤ 9223372036854775807) (k : Nat) (hk : 20000 < k) : testamurref08_Split.f k (l.map tI) ep th mn (r.map tI) = some ((splitV l r ep th mn).1.map sI, (splitV l r ep th mn).2) := by
  obtain ⟨k, rfl⟩ : ∃ q, k = q + 2 := ⟨k - 2, by omega⟩
  unfold testamurref08_Split.f splitV
  rw [List.length_map]
  by_cases q1 : 64 < l.length
  · rw [if_pos (by omega)]
    have : splitErr l.length r.length ep th mn = 1 := by unfold splitErr; rw [if_pos q1]
    rw [this]; rfl
  rw [if_neg (by omega)]
  have j0 : ∀ b, (th < 1 ∨ mn < th ∨ 8 < mn) → b = true → testamurref08_Split.j0 (k + 2) (l.map tI) ep th mn (r.map tI) b = some ((if splitErr l.length r.length ep th mn = 0 then (splitTo l r ep (th - 1).toNat mn.toNat mn.toNat, (0 : Int)) else ([], splitErr l.length r.length ep th mn)).1.map sI, (if splitErr l.length r.length ep th mn = 0 then (splitTo l r ep (th - 1).toNat mn.toNat mn.toNat, (0 : Int)) else ([], splitErr l.length r.length ep th mn)).2) := by
    intro b hb hb2
    subst hb2
    have : splitErr l.length r.length ep th mn = 80 := by unfold splitErr; rw [if_neg q1, if_pos hb]
    rw [this]
    simp only [testamurref08_Split.j0]
    rfl
  by_cases c1 : th < 1
  · rw [if_pos c1]; exact j0 true (.inl c1) rfl
  rw [if_neg c1]
  by_cases c2 : mn < th
  · rw [if_pos c2]; exact j0 true (.inr (.inl c2)) rfl
  rw [if_neg (by omega)]
  by_cases c3 : 8 < mn
  · exact j0 _ (.inr (.inr c3)) (decide_eq_true (by omega))
  rw [show decide (mn > 8) = false from decide_eq_false (by omega)]
  have q2 : ¬ (th < 1 ∨ mn < th ∨ 8 < mn) := by omega
  have hj0 : ∀ x, testamurref08_Split.j0 (k + 2) (l.map tI) ep th mn (r.map tI) false = x ↔ (if ep < 0 then testamurref08_Split.j1 (k + 1) (l.map tI) ep th mn (r.map tI) true else testamurref08_Split.j1 (k + 1) (l.map tI) ep th mn (r.map tI) (decide (ep > 1048576))) = x := by
    intro x
    simp only [testamurref08_Split.j0]
    rw [if_neg (by decide)]
  rw [hj0]
  have j1 : ∀ b, (ep < 0 ∨ 1048576 < ep) → b = true → testamurref08_Split.j1 (k + 1) (l.map tI) ep th mn (r.map tI) b = some ((if splitErr l.length r.length ep th mn = 0 then (splitTo l r ep (th - 1).toNat mn.toNat mn.toNat, (0 : Int)) else ([], splitErr l.length r.length ep th mn)).1.map sI, (if splitErr l.length r.length ep th mn = 0 then (splitTo l r ep (th - 1).toNat mn.toNat mn.toNat, (0 : Int)) else ([], splitErr l.length r.length ep th mn)).2) := by
    intro b hb hb2
    subst hb2
    have : splitErr l.length r.length ep th mn = 81 := by unfold splitErr; rw [if_neg q1, if_neg q2, if_pos hb]
    rw [this]
    simp only [testamurref08_Split.j1]
    rfl
  by_cases c4 : ep < 0
  · rw [if_pos c4]; exact j1 true (.inl c4) rfl
  rw [if_neg c4]
  by_cases c5 : 1048576 < ep
  · exact j1 _ (.inr c5) (decide_eq_true c5)
  rw [show decide (ep > 1048576) = false from decide_eq_false (by omega)]
  simp only [testamurref08_Split.j1]
  rw [if_neg (by decide)]
  obtain ⟨m, rfl⟩ : ∃ m : Nat, th = (m : Int) + 1 := ⟨(th - 1).toNat, by omega⟩
  obtain ⟨n, rfl⟩ : ∃ n : Nat, mn = (n : Int) := ⟨mn.toNat, by omega⟩
  have hm7 : m ≤ 7 := by omega
  have hlm : l.length * m ≤ 448 := Nat.le_trans (Nat.mul_le_mul (show l.length ≤ 64 by omega) hm7) (by omega)
  rw [List.length_map, List.length_map, wpred m (by omega), wmul l.length m _ rfl (by omega)]
  have hse : splitErr l.length r.length ep ((m : Int) + 1) (n : Int) = if r.length = l.length * m then 0 else 1 := by
    unfold splitErr
    rw [if_neg q1, if_neg q2, if_neg (by omega), show ((m : Int) + 1 - 1) = (m : Int) by omega, show (l.length : Int) * (m : Int) = ((l.length * m : Nat) : Int) by simp]
    by_cases h : r.length = l.length * m
    · rw [if_pos h, if_neg (by omega)]
    · rw [if_neg h, if_pos (by omega)]
  rw [hse]
  by_cases h : r.length = l.length * m
  · rw [if_pos (by omega), if_pos h]
    have := rsplit_l0 l r ep m n (by omega) hm7 (by omega) h n 0 k (by omega) (by omega)
    rw [show ((m : Int) + 1 - 1).toNat = m by omega, Int.toNat_natCast]
    exact this
  · rw [if_neg (by omega), if_neg h]; rfl
end Go.Proofs.Ytillfbohengpaaa
end
section
set_option linter.unusedVariables false
set_option linter.unusedSimpArgs false
namespace Go.Proofs.Ytillfbohengpaaa
open Go.RowKit Gf Go.Proofs.YtillfbohengpaaaW.PrintWords PA
theorem pcheck_f (L : List Sh) : shares_Check.f (L.map sI) = some (checkR L) := by
  unfold shares_Check.f
  rw [if_pos (okS_sI L), shG_map]
theorem pcoefs_f (xs ys : List G) (hd : xs.Nodup) (hl : xs.length ≤ 1000) (he : xs.length = ys.length) : field_Coefficients.f (xs.map tI) (ys.map tI) = some ((coefs xs ys).map tI, 0) := by
  unfold field_Coefficients.f
  rw [if_pos ⟨isB_tI xs, isB_tI ys, by rw [List.length_map]; exact hl⟩, gI_map, gI_map, if_pos ⟨hd, by rw [List.length_map, List.length_map, he]⟩]
theorem times_f (l : List G) (a b : G) (hl : l.length ≤ 100000) : testamurref07_times.f (l.map tI) (tI a) (tI b) = some ((lin l a b).map tI) := by
  unfold testamurref07_times.f
  rw [if_pos ⟨isB_tI l, okB_tI a, okB_tI b, by rw [List.length_map]; exact hl⟩, gI_map, gI_tI, gI_tI]
theorem add_l2 (xs ys l m : List G) (i : Nat) (hl : l.length ≤ 1000) (hm : m.length = l.length) (hi : i ≤ 1000) (R : Option (List Int × Int)) (K0 : Nat)
    (hK : ∀ k, K0 ≤ k → testamurref07_Coefficients.l0 k (xs.map tI) (ys.map tI) ((add l m).map tI) ((i : Int) + 1) = R) :
    ∀ d j k, j + d = l.length → d + K0 < k → testamurref07_Coefficients.l2 k (xs.map tI) (ys.map tI) ((addTo l m j).map tI) (i : Int) (m.map tI) (j : Int) = R := by
  intro d
  induction d with
  | zero =>
    intro j k hj hk
    obtain ⟨k, rfl⟩ : ∃ q, k = q + 1 := ⟨k - 1, by omega⟩
    simp only [testamurref07_Coefficients.l2]
    rw [if_neg (by rw [List.length_map]; omega), w64 _ (by omega) (by omega), addTo_all l m hm.symm j (by omega)]
    exact hK k (by omega)
  | succ d ih =>
    intro j k hj hk
    obtain ⟨k, rfl⟩ : ∃ q, k = q + 1 := ⟨k - 1, by omega⟩
    have hjl : j < (addTo l m j).length := by rw [addTo_length]; omega
    simp only [testamurref07_Coefficients.l2]
    rw [if_pos (by rw [List.length_map]; omega), if_pos (by omega), if_pos (by rw [List.length_map, addTo_length]; omega), rd_map _ _ hjl, rd_map _ _ (by omega), xor_tI, Int.toNat_natCast, ← List.map_set, g_eq _ _ hjl, addTo_set l m j (by omega) hjl, w64 _ (by omega) (by omega)]
    exact ih (j + 1) k (by omega) (by omega)
theorem rcoefs_l (xs ys : List G) (hl : xs.length ≤ 1000) (he : xs.length = ys.length) : ∀ d i, i + d = xs.length → ∃ K, ∀ k, K ≤ k → testamurref07_Coefficients.l0 k (xs.map tI) (ys.map tI) ((lagTo xs ys i).map tI) (i : Int) = some ((lagTo xs ys xs.length).map tI, 0) := by
  intro d
  induction d with
  | zero =>
    intro i hi
    refine ⟨1, fun k hk => ?_⟩
    obtain ⟨k, rfl⟩ : ∃ q, k = q + 1 := ⟨k - 1, by omega⟩
    simp only [testamurref07_Coefficients.l0]
    rw [if_neg (by rw [List.length_map]; omega)]
    obtain rfl : i = xs.length := by omega
    rfl
  | succ d ih =>
    intro i hi
    obtain ⟨K0, hK0⟩ := ih (i + 1) (by omega)
    have hlen := lagTo_length xs ys i (by omega)
    have hone := oneTo_full xs ys i (by omega)
    have inner : ∀ e j k, j + e = xs.length → e + xs.length + K0 + 2 < k → testamurref07_Coefficients.l1 k (xs.map tI) (ys.map tI) ((lagTo xs ys i).map tI) (i : Int) ((oneTo xs ys i j).map tI) (j : Int) = some ((lagTo xs ys xs.length).map tI, 0) := by
      intro e
      induction e with
      | zero =>
        intro j k hj hk
        obtain ⟨k, rfl⟩ : ∃ q, k = q + 1 := ⟨k - 1, by omega⟩
        simp only [testamurref07_Coefficients.l1]
        rw [if_neg (by rw [List.length_map]; omega)]
        obtain rfl : j = xs.length := by omega
        have := add_l2 xs ys (lagTo xs ys i) (oneTo xs ys i xs.length) i (by omega) (by omega) (by omega) (some ((lagTo xs ys xs.length).map tI, 0)) K0 (fun k hk => hK0 k hk) (lagTo xs ys i).length 0 k (by omega) (by omega)
        rw [addTo_zero] at this
        exact this
      | succ e ihe =>
        intro j k hj hk
        obtain ⟨k, rfl⟩ : ∃ q, k = q + 1 := ⟨k - 1, by omega⟩
        simp only [testamurref07_Coefficients.l1]
        rw [if_pos (by rw [List.length_map]; omega)]
        have hnext := ihe (j + 1) k (by omega) (by omega)
        rw [oneTo] at hnext
        by_cases hji : j = i
        · rw [if_pos (by omega), w64 _ (by omega) (by omega)]
          rw [if_pos hji] at hnext
          exact hnext
        · rw [if_neg (by omega), if_pos (by omega), if_pos (by rw [List.length_map]; omega), if_pos (by omega), rd_map _ _ (by omega), rd_map _ _ (by omega), xor_tI, show (1 : Int) = tI 1#8 from rfl, over_f]
          simp only [Option.bind_some]
          rw [mul_f]
          simp only [Option.bind_some]
          rw [times_f _ _ _ (by rw [oneTo_length]; split <;> omega)]
          simp only [Option.bind_some]
          rw [if_neg hji] at hnext
          rw [show tI 1#8 = (1 : Int) from rfl, w64 _ (by omega) (by omega)]
          exact hnext
    refine ⟨xs.length + xs.length + K0 + 4, fun k hk => ?_⟩
    obtain ⟨k, rfl⟩ : ∃ q, k = q + 1 := ⟨k - 1, by omega⟩
    simp only [testamurref07_Coefficients.l0]
    rw [if_pos (by rw [List.length_map]; omega), if_pos (by omega), if_pos (by rw [List.length_map]; omega), rd_map ys i (by omega)]
    exact inner xs.length 0 k (by omega) (by omega)
theorem rcoefs_f (xs ys : List G) (hd : xs.Nodup) (hl : xs.length ≤ 1000) (he : xs.length = ys.length) : ∃ K, ∀ k, K ≤ k → testamurref07_Coefficients.f k (xs.map tI) (ys.map tI) = some ((coefs xs ys).map tI, 0) := by
  obtain ⟨K, hK⟩ := rcoefs_l xs ys hl he xs.length 0 (by omega)
  refine ⟨K + 1100001, fun k hk => ?_⟩
  unfold testamurref07_Coefficients.f
  rw [points_f xs ys hd hl he k (by omega)]
  simp only [Option.bind_some]
  rw [if_pos trivial, if_pos (by omega), if_pos (by rw [List.length_map]; omega), List.length_map, Int.toNat_natCast, show List.replicate xs.length (0 : Int) = (List.replicate xs.length 0#8).map tI from by simp [List.map_replicate, tI]]
  have := hK k (by omega)
  rw [lag_coefs xs ys hd] at this
  exact this
def xsE (L : List Sh) (e : Nat) : List G := xsG L ++ [0#8] ++ (List.range e).map fun j => BitVec.ofNat 8 (9 + j)
def ysE (L : List Sh) (at_ : Nat) (b : G) (e : Nat) : List G := ysG L at_ ++ [b] ++ List.replicate e 0#8
theorem xsE_succ (L : List Sh) (e : Nat) : xsE L (e + 1) = xsE L e ++ [BitVec.ofNat 8 (9 + e)] := by simp [xsE, List.range_succ]
theorem ysE_succ (L : List Sh) (at_ : Nat) (b : G) (e : Nat) : ysE L at_ b (e + 1) = ysE L at_ b e ++ [0#8] := by simp [ysE, List.replicate_succ']
theorem xsE_length (L : List Sh) (e : Nat) : (xsE L e).length = L.length + 1 + e := by simp [xsE, xsG]; omega
theorem ysE_length (L : List Sh) (at_ : Nat) (b : G) (e : Nat) : (ysE L at_ b e).length = L.length + 1 + e := by simp [ysE, ysG]; omega
theorem xsE_nodup (L : List Sh) (e : Nat) (h : ∀ s ∈ L, 0 < s.ix ∧ s.ix ≤ 8) (hp : L.Pairwise (fun x y => x.ix < y.ix)) (he : e ≤ 100) : (xsE L e).Nodup := by
  have heq : xsE L e = (L.map (fun s => s.ix) ++ [(0 : Int)] ++ (List.range e).map (fun j : Nat => 9 + (j : Int))).map gI := by
    simp only [xsE, xsG, List.map_append, List.map_map, List.map_cons, List.map_nil]
    congr 1
  rw [heq]
  have hr : ∀ x ∈ (L.map (fun s => s.ix) ++ [(0 : Int)] ++ (List.range e).map (fun j : Nat => 9 + (j : Int))), 0 ≤ x ∧ x < 256 := by
    intro x hx
    simp only [List.mem_append, List.mem_map, List.mem_singleton, List.mem_range] at hx
    rcases hx with (⟨s, hs, rfl⟩ | rfl) | ⟨j, hj, rfl⟩
    · have := h s hs; omega
    · omega
    · omega
  have hn : (L.map (fun s => s.ix) ++ [(0 : Int)] ++ (List.range e).map (fun j : Nat => 9 + (j : Int))).Nodup := by
    rw [List.nodup_append]
    refine ⟨?_, ?_, ?_⟩
    · rw [List.nodup_append]
      refine ⟨?_, by simp, ?_⟩
      · unfold List.Nodup
        rw [List.pairwise_map]
        exact hp.imp (fun hxy => by omega)
      · intro x hx y hy
        obtain ⟨s, hs, rfl⟩ := List.mem_map.1 hx
        have := h s hs
        simp at hy; omega
    · unfold List.Nodup
      rw [List.pairwise_map]
      exact List.pairwise_lt_range.imp (fun hxy => by omega)
    · intro x hx y hy
      obtain ⟨j, hj, rfl⟩ := List.mem_map.1 hy
      simp only [List.mem_append, List.mem_map, List.mem_singleton] at hx
      rcases hx with ⟨s, hs, rfl⟩ | rfl
      · have := h s hs; omega
      · omega
  unfold List.Nodup at hn ⊢
  rw [List.pairwise_map]
  exact List.Pairwise.imp_of_mem (fun {x y} hx hy hxy => gI_lt (hr x hx) (hr y hy) hxy) hn
def explAt (L : List Sh) (t : Nat) (s : List G) (at_ : Nat) : List G := (coefs (xsE L (t - (L.length + 1))) (ysE L at_ (g s at_) (t - (L.length + 1)))).drop 1
def explTo (L : List Sh) (t : Nat) (s : List G) (i : Nat) : List G := (List.range i).flatMap (explAt L t s)
theorem explTo_succ (L : List Sh) (t : Nat) (s : List G) (i : Nat) : explTo L t s (i + 1) = explTo L t s i ++ explAt L t s i := by simp [explTo, List.range_succ]
theorem explAt_length (L : List Sh) (t : Nat) (s : List G) (at_ : Nat) (h : L.length < t) : (explAt L t s at_).length = t - 1 := by
  rw [explAt, List.length_drop, coefs_length, xsE_length]; omega
theorem explTo_length (L : List Sh) (t : Nat) (s : List G) (i : Nat) (h : L.length < t) : (explTo L t s i).length = i * (t - 1) := by
  induction i with
  | zero => simp [explTo]
  | succ i ih => rw [explTo_succ, List.length_append, ih, explAt_length L t s i h, Nat.succ_mul]
def explE (L : List Sh) (s : List G) : Int := if checkR L = 0 then (if thN L ≤ L.length then 80 else if s.length = dlN L then 0 else 1) else checkR L
def explR (L : List Sh) (s : List G) : List G := if explE L s = 0 then explTo L (thN L) s s.length else []
theorem expl_fill (a : Sh) (r : List Sh) (t : Nat) (s : List G) (i : Nat) (hal : Alike a r) (ht : t ≤ 8) (hlt : (a :: r).length < t) (R : Option (List Int × Int)) (K0 : Nat) (hs : s.length ≤ 64) (hi : i < s.length)
    (hK : ∀ k, K0 ≤ k → shares_Explain.l0 k ((a :: r).map sI) ((explTo (a :: r) t s (i + 1)).map tI) (t : Int) (s.map tI) (s.length : Int) ((i : Int) + 1) = R) :
    ∃ K, ∀ k, K ≤ k → ∀ d e, e + d = t - ((a :: r).length + 1) → shares_Explain.l1 (k + d) ((a :: r).map sI) ((explTo (a :: r) t s i).map tI) (t : Int) ((xsE (a :: r) e).map tI) ((ysE (a :: r) i (g s i) e).map tI) ((9 + e : Nat) : Int) (s.map tI) (s.length : Int) (i : Int) = R := by
  have h8 := hal.t3
  have hix : ∀ s ∈ a :: r, 0 < s.ix ∧ s.ix ≤ 8 := fun s hs => by obtain ⟨_, _, _, g1, g2⟩ := hal.all s hs; omega
  have hnd := xsE_nodup (a :: r) (t - ((a :: r).length + 1)) hix hal.inc (by omega)
  have hlen := explTo_length (a :: r) t s i hlt
  have hlen2 : (explTo (a :: r) t s i).length ≤ 448 := by rw [hlen]; exact Nat.le_trans (Nat.mul_le_mul (show i ≤ 64 by omega) (show t - 1 ≤ 7 by omega)) (by decide)
  have hat := explAt_length (a :: r) t s i hlt
  refine ⟨K0 + 1, fun k hk d => ?_⟩
  induction d with
  | zero =>
    intro e he
    obtain ⟨k, rfl⟩ : ∃ q, k = q + 1 := ⟨k - 1, by omega⟩
    obtain rfl : e = t - ((a :: r).length + 1) := by omega
    simp only [Nat.add_zero, shares_Explain.l1]
    rw [if_neg (by rw [List.length_map, xsE_length]; omega), pcoefs_f _ _ hnd (by rw [xsE_length]; omega) (by rw [xsE_length, ysE_length])]
    simp only [Option.bind_some]
    rw [if_pos (by rw [List.length_map, coefs_length, xsE_length]; omega), ← List.map_drop]
    rw [show (coefs (xsE (a :: r) (t - ((a :: r).length + 1))) (ysE (a :: r) i (g s i) (t - ((a :: r).length + 1)))).drop 1 = explAt (a :: r) t s i from rfl]
    rw [if_pos (by rw [List.length_map, List.length_map, hat]; omega), ← List.map_append, ← explTo_succ, w64 _ (by omega) (by omega)]
    exact hK k (by omega)
  | succ d ih =>
    intro e he
    have := ih (e + 1) (by omega)
    rw [← Nat.add_assoc]
    simp only [shares_Explain.l1]
    rw [if_pos (by rw [List.length_map, xsE_length]; omega), if_pos (by rw [List.length_map, xsE_length]; omega), if_pos (by rw [List.length_map, ysE_length]; omega)]
    rw [xsE_succ, ysE_succ, List.map_append, List.map_append] at this
    rw [show (((9 + e : Nat) : Int) + 1) % 256 = ((9 + (e + 1) : Nat) : Int) by omega]
    rw [show [((9 + e : Nat) : Int)] = [BitVec.ofNat 8 (9 + e)].map tI from by simp [tI]; omega, show [(0 : Int)] = [0#8].map tI from rfl]
    exact this
theorem expl_l0 (a : Sh) (r : List Sh) (t : Nat) (s : List G) (hal : Alike a r) (ht : t ≤ 8) (hlt : (a :: r).length < t) (hs : s.length ≤ 64) (hsl : s.length = a.da.length) : ∀ d i, i + d = s.length → ∃ K, ∀ k, K ≤ k →
    shares_Explain.l0 k ((a :: r).map sI) ((explTo (a :: r) t s i).map tI) (t : Int) (s.map tI) (s.length : Int) (i : Int) = some ((explTo (a :: r) t s s.length).map tI, 0) := by
  have hlen := hal.len
  have h8 := hal.t3
  intro d
  induction d with
  | zero =>
    intro i hi
    refine ⟨1, fun k hk => ?_⟩
    obtain ⟨k, rfl⟩ : ∃ q, k = q + 1 := ⟨k - 1, by omega⟩
    simp only [shares_Explain.l0]
    rw [if_neg (by (try rw [List.length_map]); omega)]
    obtain rfl : i = s.length := by omega
    rfl
  | succ d ih =>
    intro i hi
    obtain ⟨K0, hK0⟩ := ih (i + 1) (by omega)
    obtain ⟨K, hK⟩ := expl_fill a r t s i hal ht hlt _ K0 hs (by omega) hK0
    refine ⟨K + t + 100, fun k hk => ?_⟩
    obtain ⟨k, rfl⟩ : ∃ q, k = q + (t - ((a :: r).length + 1)) + 1 := ⟨k - (t - ((a :: r).length + 1)) - 1, by omega⟩
    simp only [shares_Explain.l0]
    rw [if_pos (by omega), if_pos (by omega), if_pos (by rw [List.length_map]; omega), pts_f (a :: r) i (fun q hq => by rw [(hal.all q hq).2.2.1]; omega) (by omega) _ (by omega)]
    simp only [Option.bind_some]
    rw [if_pos (by simp only [xsG, List.length_map]; omega), if_pos (by simp only [ysG, List.length_map]; omega), rd_map _ _ (by omega)]
    have := hK k (by omega) (t - ((a :: r).length + 1)) 0 (by omega)
    rw [show xsE (a :: r) 0 = xsG (a :: r) ++ [0#8] from by simp [xsE], show ysE (a :: r) i (g s i) 0 = ysG (a :: r) i ++ [g s i] from by simp [ysE], List.map_append, List.map_append] at this
    exact this
theorem expl_f (L : List Sh) (s : List G) (hl : L.length ≤ 100000) (hs : s.length ≤ 100000) : ∃ K, ∀ k, K ≤ k → shares_Explain.f k (L.map sI) (s.map tI) = some ((explR L s).map tI, explE L s) := by
  by_cases hck : checkR L = 0
  case neg =>
    refine ⟨L.length + 1, fun k hk => ?_⟩
    have hE : explE L s = checkR L := by simp [explE, hck]
    have hR : explR L s = [] := by simp [explR, hE, hck]
    unfold shares_Explain.f
    rw [pcheck_f]
    simp only [Option.bind_some]
    rw [if_neg hck, hE, hR]; rfl
  obtain ⟨a, r, rfl, hal, _⟩ := check0 hck
  obtain ⟨t, ht⟩ : ∃ t : Nat, a.th = (t : Int) := ⟨a.th.toNat, by have := hal.t1; omega⟩
  have htn : thN (a :: r) = t := by simp [thN, ht]
  have ht8 : t ≤ 8 := by have := hal.t2; have := hal.t3; omega
  have hz : rd_T52 ((a :: r).map sI) 0 = sI a := rdT_map (a :: r) 0 (by simp)
  have hlen := hal.len
  have h64 := hal.d
  by_cases hlt : t ≤ (a :: r).length
  · have hE : explE (a :: r) s = 80 := by unfold explE; rw [if_pos hck, htn, if_pos hlt]
    have hR : explR (a :: r) s = [] := by unfold explR; rw [hE]; rfl
    refine ⟨(a :: r).length + 1, fun k hk => ?_⟩
    unfold shares_Explain.f
    rw [pcheck_f]
    simp only [Option.bind_some]
    rw [if_pos hck, if_pos (by rw [List.length_map]; simp <;> omega), hz]
    simp only [show (sI a).f2 = (t : Int) from ht, List.length_map]
    rw [if_pos (by omega), hE, hR]; rfl
  by_cases hsl : s.length = a.da.length
  · have hE : explE (a :: r) s = 0 := by unfold explE; rw [if_pos hck, htn, if_neg hlt, if_pos (show s.length = dlN (a :: r) from hsl)]
    have hR : explR (a :: r) s = explTo (a :: r) t s s.length := by unfold explR; rw [hE, htn]; rfl
    obtain ⟨K, hK⟩ := expl_l0 a r t s hal ht8 (by omega) (by omega) hsl s.length 0 (by omega)
    refine ⟨K + (a :: r).length + 1, fun k hk => ?_⟩
    unfold shares_Explain.f
    rw [pcheck_f]
    simp only [Option.bind_some]
    rw [if_pos hck, if_pos (by rw [List.length_map]; simp <;> omega), hz]
    simp only [show (sI a).f2 = (t : Int) from ht, show (sI a).f4.length = a.da.length from by simp [sI], List.length_map]
    rw [if_neg (by omega), if_pos (by omega), hE, hR]
    exact hK k (by omega)
  · have hE : explE (a :: r) s = 1 := by unfold explE; rw [if_pos hck, htn, if_neg hlt, if_neg (show ¬ s.length = dlN (a :: r) from hsl)]
    have hR : explR (a :: r) s = [] := by unfold explR; rw [hE]; rfl
    refine ⟨(a :: r).length + 1, fun k hk => ?_⟩
    unfold shares_Explain.f
    rw [pcheck_f]
    simp only [Option.bind_some]
    rw [if_pos hck, if_pos (by rw [List.length_map]; simp <;> omega), hz]
    simp only [show (sI a).f2 = (t : Int) from ht, show (sI a).f4.length = a.da.length from by simp [sI], List.length_map]
    rw [if_neg (by omega), if_neg (by omega), hE, hR]; rfl
theorem rexpl_fill (a : Sh) (r : List Sh) (t : Nat) (s : List G) (i : Nat) (hal : Alike a r) (ht : t ≤ 8) (hlt : (a :: r).length < t) (R : Option (List Int × Int)) (K0 : Nat) (hs : s.length ≤ 64) (hi : i < s.length)
    (hK : ∀ k, K0 ≤ k → testamurref08_Explain.l0 k ((a :: r).map sI) (s.map tI) (t : Int) ((explTo (a :: r) t s (i + 1)).map tI) ((i : Int) + 1) = R) :
    ∃ K, ∀ k, K ≤ k → ∀ d e, e + d = t - ((a :: r).length + 1) → testamurref08_Explain.l1 (k + d) ((a :: r).map sI) (s.map tI) (t : Int) ((explTo (a :: r) t s i).map tI) (i : Int) ((xsE (a :: r) e).map tI) ((ysE (a :: r) i (g s i) e).map tI) ((9 + e : Nat) : Int) = R := by
  have h8 := hal.t3
  have hix : ∀ s ∈ a :: r, 0 < s.ix ∧ s.ix ≤ 8 := fun s hs => by obtain ⟨_, _, _, g1, g2⟩ := hal.all s hs; omega
  have hnd := xsE_nodup (a :: r) (t - ((a :: r).length + 1)) hix hal.inc (by omega)
  obtain ⟨KC, hKC⟩ := rcoefs_f _ (ysE (a :: r) i (g s i) (t - ((a :: r).length + 1))) hnd (by rw [xsE_length]; omega) (by rw [xsE_length, ysE_length])
  have hlen := explTo_length (a :: r) t s i hlt
  have hlen2 : (explTo (a :: r) t s i).length ≤ 448 := by rw [hlen]; exact Nat.le_trans (Nat.mul_le_mul (show i ≤ 64 by omega) (show t - 1 ≤ 7 by omega)) (by decide)
  have hat := explAt_length (a :: r) t s i hlt
  refine ⟨K0 + KC + 1, fun k hk d => ?_⟩
  induction d with
  | zero =>
    intro e he
    obtain ⟨k, rfl⟩ : ∃ q, k = q + 1 := ⟨k - 1, by omega⟩
    obtain rfl : e = t - ((a :: r).length + 1) := by omega
    simp only [Nat.add_zero, testamurref08_Explain.l1]
    rw [if_neg (by rw [List.length_map, xsE_length]; omega), hKC k (by omega)]
    simp only [Option.bind_some]
    rw [if_pos (by rw [List.length_map, coefs_length, xsE_length]; omega), ← List.map_drop]
    rw [show (coefs (xsE (a :: r) (t - ((a :: r).length + 1))) (ysE (a :: r) i (g s i) (t - ((a :: r).length + 1)))).drop 1 = explAt (a :: r) t s i from rfl]
    rw [if_pos (by rw [List.length_map, List.length_map, hat]; omega), ← List.map_append, ← explTo_succ, w64 _ (by omega) (by omega)]
    exact hK k (by omega)
  | succ d ih =>
    intro e he
    have := ih (e + 1) (by omega)
    rw [← Nat.add_assoc]
    simp only [testamurref08_Explain.l1]
    rw [if_pos (by rw [List.length_map, xsE_length]; omega), if_pos (by rw [List.length_map, xsE_length]; omega), if_pos (by rw [List.length_map, ysE_length]; omega)]
    rw [xsE_succ, ysE_succ, List.map_append, List.map_append] at this
    rw [show (((9 + e : Nat) : Int) + 1) % 256 = ((9 + (e + 1) : Nat) : Int) by omega]
    rw [show [((9 + e : Nat) : Int)] = [BitVec.ofNat 8 (9 + e)].map tI from by simp [tI]; omega, show [(0 : Int)] = [0#8].map tI from rfl]
    exact this
theorem rexpl_l0 (a : Sh) (r : List Sh) (t : Nat) (s : List G) (hal : Alike a r) (ht : t ≤ 8) (hlt : (a :: r).length < t) (hs : s.length ≤ 64) (hsl : s.length = a.da.length) : ∀ d i, i + d = s.length → ∃ K, ∀ k, K ≤ k →
    testamurref08_Explain.l0 k ((a :: r).map sI) (s.map tI) (t : Int) ((explTo (a :: r) t s i).map tI) (i : Int) = some ((explTo (a :: r) t s s.length).map tI, 0) := by
  have hlen := hal.len
  have h8 := hal.t3
  intro d
  induction d with
  | zero =>
    intro i hi
    refine ⟨1, fun k hk => ?_⟩
    obtain ⟨k, rfl⟩ : ∃ q, k = q + 1 := ⟨k - 1, by omega⟩
    simp only [testamurref08_Explain.l0]
    rw [if_neg (by (try rw [List.length_map]); omega)]
    obtain rfl : i = s.length := by omega
    rfl
  | succ d ih =>
    intro i hi
    obtain ⟨K0, hK0⟩ := ih (i + 1) (by omega)
    obtain ⟨K, hK⟩ := rexpl_fill a r t s i hal ht hlt _ K0 hs (by omega) hK0
    refine ⟨K + t + 100, fun k hk => ?_⟩
    obtain ⟨k, rfl⟩ : ∃ q, k = q + (t - ((a :: r).length + 1)) + 1 := ⟨k - (t - ((a :: r).length + 1)) - 1, by omega⟩
    simp only [testamurref08_Explain.l0]
    rw [if_pos (by rw [List.length_map]; omega), rpts_f (a :: r) i (fun q hq => by rw [(hal.all q hq).2.2.1]; omega) (by omega) _ (by omega)]
    simp only [Option.bind_some]
    rw [if_pos (by simp only [xsG, List.length_map]; omega), if_pos (by omega), if_pos (by simp only [ysG, List.length_map]; omega), rd_map _ _ (by omega)]
    have := hK k (by omega) (t - ((a :: r).length + 1)) 0 (by omega)
    rw [show xsE (a :: r) 0 = xsG (a :: r) ++ [0#8] from by simp [xsE], show ysE (a :: r) i (g s i) 0 = ysG (a :: r) i ++ [g s i] from by simp [ysE], List.map_append, List.map_append] at this
    exact this
theorem rexpl_f (L : List Sh) (s : List G) (hl : L.length ≤ 100000) (hs : s.length ≤ 100000) : ∃ K, ∀ k, K ≤ k → testamurref08_Explain.f k (L.map sI) (s.map tI) = some ((explR L s).map tI, explE L s) := by
  by_cases hck : checkR L = 0
  case neg =>
    refine ⟨L.length + 1, fun k hk => ?_⟩
    have hE : explE L s = checkR L := by simp [explE, hck]
    have hR : explR L s = [] := by simp [explR, hE, hck]
    unfold testamurref08_Explain.f
    rw [rcheck_f _ (by omega) k (by omega)]
    simp only [Option.bind_some]
    rw [if_neg hck, hE, hR]; rfl
  obtain ⟨a, r, rfl, hal, _⟩ := check0 hck
  obtain ⟨t, ht⟩ : ∃ t : Nat, a.th = (t : Int) := ⟨a.th.toNat, by have := hal.t1; omega⟩
  have htn : thN (a :: r) = t := by simp [thN, ht]
  have ht8 : t ≤ 8 := by have := hal.t2; have := hal.t3; omega
  have hz : rd_T52 ((a :: r).map sI) 0 = sI a := rdT_map (a :: r) 0 (by simp)
  have hlen := hal.len
  have h64 := hal.d
  by_cases hlt : t ≤ (a :: r).length
  · have hE : explE (a :: r) s = 80 := by unfold explE; rw [if_pos hck, htn, if_pos hlt]
    have hR : explR (a :: r) s = [] := by unfold explR; rw [hE]; rfl
    refine ⟨(a :: r).length + 1, fun k hk => ?_⟩
    unfold testamurref08_Explain.f
    rw [rcheck_f _ (by omega) k (by omega)]
    simp only [Option.bind_some]
    rw [if_pos hck, if_pos (by rw [List.length_map]; simp <;> omega), hz]
    simp only [show (sI a).f2 = (t : Int) from ht, List.length_map]
    rw [if_pos (by omega), hE, hR]; rfl
  by_cases hsl : s.length = a.da.length
  · have hE : explE (a :: r) s = 0 := by unfold explE; rw [if_pos hck, htn, if_neg hlt, if_pos (show s.length = dlN (a :: r) from hsl)]
    have hR : explR (a :: r) s = explTo (a :: r) t s s.length := by unfold explR; rw [hE, htn]; rfl
    obtain ⟨K, hK⟩ := rexpl_l0 a r t s hal ht8 (by omega) (by omega) hsl s.length 0 (by omega)
    refine ⟨K + (a :: r).length + 1, fun k hk => ?_⟩
    unfold testamurref08_Explain.f
    rw [rcheck_f _ (by omega) k (by omega)]
    simp only [Option.bind_some]
    rw [if_pos hck, if_pos (by rw [List.length_map]; simp <;> omega), hz]
    simp only [show (sI a).f2 = (t : Int) from ht, show (sI a).f4.length = a.da.length from by simp [sI], List.length_map]
    rw [if_neg (by omega), if_pos (by omega), hE, hR]
    exact hK k (by omega)
  · have hE : explE (a :: r) s = 1 := by unfold explE; rw [if_pos hck, htn, if_neg hlt, if_neg (show ¬ s.length = dlN (a :: r) from hsl)]
    have hR : explR (a :: r) s = [] := by unfold explR; rw [hE]; rfl
    refine ⟨(a :: r).length + 1, fun k hk => ?_⟩
    unfold testamurref08_Explain.f
    rw [rcheck_f _ (by omega) k (by omega)]
    simp only [Option.bind_some]
    rw [if_pos hck, if_pos (by rw [List.length_map]; simp <;> omega), hz]
    simp only [show (sI a).f2 = (t : Int) from ht, show (sI a).f4.length = a.da.length from by simp [sI], List.length_map]
    rw [if_neg (by omega), if_neg (by omega), hE, hR]; rfl
end Go.Proofs.Ytillfbohengpaaa
end
section
namespace Go.Proofs.Ytillfbohengpaaa.PA
open Go.RowKit Go.Proofs.YtillfbohengpaaaW.PrintWords Go.Proofs.YtillfbohengpaaaW.PrintLast Go.Proofs.YtillfbohengpaaaW.PrintMore
attribute [local go_sem] max2_int min2_int max_two min_two max_three min_three max_four min_four   -- for this text's walks alone
set_option linter.unusedVariables false
set_option linter.unusedSimpArgs false
def testamurlaw08_sane.f : Option Bool := some true
theorem testamurlaw08_sane.calls (r : Bool) (w : World) (h : testamurlaw08_sane.f = some r) :
 Calls Try.prog 23 #[] w fun e w' => e = .returned (.bool r) ∧ Below w.heap.size w w' := by
 injection h with h
 subst h
 exact sane_s w
end Go.Proofs.Ytillfbohengpaaa.PA
end
section
namespace Go.Proofs.Ytillfbohengpaaa.PA
open Go.RowKit Go.Proofs.YtillfbohengpaaaW.PrintWords Go.Proofs.YtillfbohengpaaaW.PrintLast Go.Proofs.YtillfbohengpaaaW.PrintMore
attribute [local go_sem] max2_int min2_int max_two min_two max_three min_three max_four min_four   -- for this text's walks alone
set_option linter.unusedVariables false
set_option linter.unusedSimpArgs false
def shares_Join.f (l0 : List S52) : Option (List Int × Int) := if okS l0 = true then some ((joinR (l0.map shG)).map tI, joinE (l0.map shG)) else none
theorem shares_Join.calls (A0 : Option Addr) (c0 : Nat) (l0 : List S52) (r1 : List Int) (r2 : Int) (w : World) (hr0 : Kd.C k52 w A0 l0.length l0) (hc0 : l0.length ≤ c0) (h : shares_Join.f l0 = some (r1, r2)) :
 Calls Try.prog 30 #[.slice A0 l0.length c0] w fun e w' => ∃ v0_ : Value, e = .returned (.tuple #[v0_, .int .i64 r2]) ∧ Kd.R (Kd.int .u8) 5 w' w.heap.size (fun _ => True) v0_ r1 ∧ Below w.heap.size w w' := by
 unfold shares_Join.f at h
 split at h
 case isFalse => cases h
 rename_i ho
 obtain ⟨L, rfl⟩ := ex_okS ho
 rw [shG_map] at h
 injection h with h
 injection h with e1 e2
 subst e1 e2
 refine (join_u A0 _ c0 L w hr0 hc0).mono ?_
 rintro e w' ⟨⟨v, rfl, hs⟩, hb⟩
 exact ⟨v, rfl, hs, hb⟩
end Go.Proofs.Ytillfbohengpaaa.PA
end
section
namespace Go.Proofs.Ytillfbohengpaaa.PA
open Go.RowKit Go.Proofs.YtillfbohengpaaaW.PrintWords Go.Proofs.YtillfbohengpaaaW.PrintLast Go.Proofs.YtillfbohengpaaaW.PrintMore
attribute [local go_sem] max2_int min2_int max_two min_two max_three min_three max_four min_four   -- for this text's walks alone
set_option linter.unusedVariables false
set_option linter.unusedSimpArgs false
end Go.Proofs.Ytillfbohengpaaa.PA
end
section
set_option linter.unusedVariables false
set_option linter.unusedSimpArgs false
namespace Go.Proofs.Ytillfbohengpaaa
open Go.RowKit Go.ChangeShapes Go.Deep Go.Proofs.YtillfbohengpaaaW.PrintWords
section
variable {H : Type} (enc : TypeId × Value → H) (P : Program) (w : World) (base : Nat) (spare : Nat → Bool) (held : Bool)
structure Opens {α : Type} (k : Kd α) (W : α → Prop) (t : TypeId) : Prop where
  cells : P.cellsOf t = k.sz
  open_ : ∀ {fuel : Nat} {cs : List Value} {x : DataW H × List MemPlace}, DataW.trod enc P w base spare held fuel t cs = some x → ∃ a, k.K w a cs ∧ W a
structure OpensSeg {α : Type} (k : Kd α) (W : α → Prop) (fs : List Field) (off : Nat) : Prop where
  open_ : ∀ {n : Nat} {cs : List Value}, (∀ f ∈ fs, ∃ y, DataW.trod enc P w base spare held n f.type ((cs.drop f.offset).take (P.cellsOf f.type)) = some y) → ∃ a, k.K w a ((cs.drop off).take k.sz) ∧ W a
variable {enc P w base spare held}
theorem opens_int {k : IntKind} {t : TypeId} (ht : P.underlying t = some (.int k)) (hc : P.cellsOf t = 1) : Opens enc P w base spare held (Kd.int k) (fun x => (Lit.int k x).wf = true) t :=
  ⟨hc, fun h => by
    obtain ⟨n, rfl, _, hw⟩ := DataW.trod_int ht h
    exact ⟨n, rfl, hw⟩⟩
theorem opens_slice {α : Type} {k : Kd α} {W : α → Prop} {t e : TypeId} (ht : P.underlying t = some (.slice e)) (hc : P.cellsOf t = 1) (he : Opens enc P w base spare held k W e) : Opens enc P w base spare held (Kd.slice e k) (fun l => ∀ x ∈ l, W x) t :=
  ⟨hc, fun {fuel cs x} h => by
    rcases open_slice ht h with ⟨rfl, _⟩ | ⟨a, len, cap, m, n, D, Pl, rfl, hb, hl, hm, hmm, rfl, hx⟩
    · exact ⟨[], ⟨none, 0, rfl, Nat.le_refl _, ⟨rfl, by simp, fun h => by simp at h⟩⟩, fun x h => by simp at h⟩
    have hlm : len ≤ m := by rw [hmm]; split <;> omega
    have each : ∀ i, i < len → ∃ q : α × List Value, w.cells? base (a.add (i * P.cellsOf e)) (P.cellsOf e) = some q.2 ∧ k.K w q.1 q.2 ∧ W q.1 := fun i hi => by
      obtain ⟨cs', h1, h2⟩ := hx i (by omega)
      obtain ⟨y, h3, h4⟩ := he.open_ h2
      exact ⟨(y, cs'), h1, h3, h4⟩
    have hne : len = 0 ∨ Nonempty (α × List Value) := by
      rcases Nat.eq_zero_or_pos len with h0 | h0
      · exact .inl h0
      · obtain ⟨q, _⟩ := each 0 h0; exact .inr ⟨q⟩
    rcases hne with rfl | ⟨⟨q0⟩⟩
    · exact ⟨[], ⟨some a, cap, rfl, Nat.zero_le _, ⟨rfl, by simp, fun h => by simp at h⟩⟩, fun x h => by simp at h⟩
    have ⟨q, hq⟩ : ∃ q : Nat → α × List Value, ∀ i, i < len → w.cells? base (a.add (i * P.cellsOf e)) (P.cellsOf e) = some (q i).2 ∧ k.K w (q i).1 (q i).2 ∧ W (q i).1 := by
      classical
      exact ⟨fun i => if h : i < len then (each i h).choose else q0, fun i hi => by simp only [dif_pos hi]; exact (each i hi).choose_spec⟩
    refine ⟨(List.range len).map fun i => (q i).1, ⟨some a, cap, by simp, by simpa using hl, ⟨by simp, by simp only [List.length_map, List.length_range]; unfold maxLen at hm; omega, fun _ => ⟨a, rfl, fun j p hj => ?_⟩⟩⟩, fun x hx => ?_⟩
    · rw [List.getElem?_map, Option.map_eq_some_iff] at hj
      obtain ⟨i, hi, rfl⟩ := hj
      have hjl : j < len := by have := (List.getElem?_eq_some_iff.1 hi).1; simpa using this
      have : i = j := by have := (List.getElem?_eq_some_iff.1 hi).2; simpa using this.symm
      subst this
      obtain ⟨h1, h2, _⟩ := hq i hjl
      obtain ⟨_, hlen, hcell⟩ := World.cells?_some h1
      refine ⟨(q i).2, k.K_len h2, h2, fun z u hu => ?_⟩
      have hz := (List.getElem?_eq_some_iff.1 hu).1
      have := hcell z (by rw [← hlen]; exact hz)
      rw [_root_.Go.Proofs.YtillfbohengpaaaW.PrintWords.add_add a] at this
      rw [← he.cells, this]
      exact hu
    · obtain ⟨i, hi, rfl⟩ := List.mem_map.1 hx
      exact (hq i (by simpa using hi)).2.2⟩
theorem seg_one {α : Type} {k : Kd α} {W : α → Prop} {f : Field} {off : Nat} (ho : f.offset = off) (h : Opens enc P w base spare held k W f.type) : OpensSeg enc P w base spare held k W [f] off :=
  ⟨fun {n cs} hf => by
    obtain ⟨y, hy⟩ := hf f (by simp)
    rw [ho, h.cells] at hy
    exact h.open_ hy⟩
theorem seg_cons {α β : Type} {k0 : Kd α} {k1 : Kd β} {W0 : α → Prop} {W1 : β → Prop} {f : Field} {fs : List Field} {off : Nat} (ho : f.offset = off) (h : Opens enc P w base spare held k0 W0 f.type) (hs : OpensSeg enc P w base spare held k1 W1 fs (off + k0.sz)) :
    OpensSeg enc P w base spare held (Kd.pair k0 k1) (fun x => W0 x.1 ∧ W1 x.2) (f :: fs) off :=
  ⟨fun {n cs} hf => by
    obtain ⟨y, hy⟩ := hf f (by simp)
    rw [ho, h.cells] at hy
    obtain ⟨a, ha, hWa⟩ := h.open_ hy
    obtain ⟨b, hb, hWb⟩ := hs.open_ (n := n) (cs := cs) (fun g hg => hf g (List.mem_cons_of_mem _ hg))
    refine ⟨(a, b), ⟨_, _, ?_, ha, hb⟩, hWa, hWb⟩
    show (cs.drop off).take (k0.sz + k1.sz) = _
    rw [List.take_add, List.drop_drop]⟩
theorem opens_struct {α β : Type} {k : Kd α} {W : α → Prop} {t : TypeId} {fs : Array Field} (f : β → α) (g : α → β) (hfg : ∀ a, f (g a) = a) (ht : P.underlying t = some (.struct fs)) (hc : P.cellsOf t = k.sz) (h : OpensSeg enc P w base spare held k W fs.toList 0) :
    Opens enc P w base spare held (Kd.iso k f) (fun b => W (f b)) t :=
  ⟨hc, fun {fuel cs x} hx => by
    obtain ⟨xs, n, _, _, hl, hxl, hf⟩ := DataW.trod_struct ht hx
    obtain ⟨a, ha, hW⟩ := h.open_ (n := n) (cs := cs) (fun fl hfl => by
      obtain ⟨i, hi, e⟩ := List.mem_iff_getElem.1 hfl
      have hi' : i < fs.size := by simpa using hi
      have := hf i fl (by rw [Array.getElem?_eq_getElem hi', ← e]; simp)
      rw [this, List.getElem?_eq_getElem (by omega)]
      exact ⟨_, rfl⟩)
    refine ⟨g a, ?_, ?_⟩
    · show k.K w (f (g a)) cs
      rw [hfg, ← List.take_length (l := cs), hl, hc]
      simpa using ha
    · show W (f (g a)); rw [hfg]; exact hW⟩
theorem Opens.arg {α : Type} {k : Kd α} {W : α → Prop} {t e : TypeId} {a : Option Addr} {len cap : Nat} {d : DataW H} {p : List MemPlace} (h : Opens enc P w base spare held (Kd.slice e k) (fun l => ∀ x ∈ l, W x) t)
    (ht : DataW.Trod enc P w base spare held t (.slice a len cap) d p) : ∃ l : List α, l.length = len ∧ len ≤ cap ∧ k.C w a l.length l ∧ ∀ x ∈ l, W x := by
  obtain ⟨fuel, hf⟩ := ht
  obtain ⟨l, ⟨A, c, e, hlc, hC⟩, hW⟩ := h.open_ hf
  simp [Value.cells] at e
  obtain ⟨rfl, rfl, rfl⟩ := e
  exact ⟨l, rfl, hlc, hC, hW⟩
end
end Go.Proofs.Ytillfbohengpaaa
end
section
set_option linter.unusedVariables false
set_option linter.unusedSimpArgs false
namespace Go.Proofs.Ytillfbohengpaaa
open Go.RowKit Go.ChangeShapes Go.Proofs.YtillfbohengpaaaW.PrintWords PA
theorem okB_wf (x : Int) (h : (Lit.int .u8 x).wf = true) : okB x = true := by
  simp only [Lit.wf] at h
  simp only [okB, Bool.and_eq_true, decide_eq_true_eq]
  revert h
  simp [IntKind.min, IntKind.max, IntKind.signed, IntKind.bits] 
  omega
section
variable {H : Type} {enc : TypeId × Value → H} {w : World} {base : Nat} {spare : Nat → Bool} {held : Bool}
theorem opens_bytes : Opens enc Try.prog w base spare held (Kd.slice 5 (Kd.int .u8)) (fun l => ∀ x ∈ l, (Lit.int .u8 x).wf = true) 30 :=
  opens_slice (by kernel_rfl) (by kernel_rfl) (opens_int (by kernel_rfl) (by kernel_rfl))
theorem opens_i64 : Opens enc Try.prog w base spare held (Kd.int .i64) (fun x => (Lit.int .i64 x).wf = true) 3 := opens_int (by kernel_rfl) (by kernel_rfl)
def ShWf (s : S52) : Prop := (Lit.int .i64 s.f0).wf = true ∧ (Lit.int .i64 s.f1).wf = true ∧ (Lit.int .i64 s.f2).wf = true ∧ (Lit.int .i64 s.f3).wf = true ∧ ∀ x ∈ s.f4, (Lit.int .u8 x).wf = true
theorem opens_share : Opens enc Try.prog w base spare held k52 ShWf 52 :=
  opens_struct (fun x : S52 => (x.f0, x.f1, x.f2, x.f3, x.f4)) (fun a => ⟨a.1, a.2.1, a.2.2.1, a.2.2.2.1, a.2.2.2.2⟩) (fun a => rfl) Try.underlying52 (by kernel_rfl)
    (seg_cons rfl opens_i64 (seg_cons rfl opens_i64 (seg_cons rfl opens_i64 (seg_cons rfl opens_i64 (seg_one rfl opens_bytes)))))
theorem opens_shares : Opens enc Try.prog w base spare held (Kd.slice 52 k52) (fun l => ∀ x ∈ l, ShWf x) 37 :=
  opens_slice (by kernel_rfl) (by kernel_rfl) opens_share
theorem okS_wf (l : List S52) (h : ∀ x ∈ l, ShWf x) : okS l = true :=
  List.all_eq_true.2 fun s hs => List.all_eq_true.2 fun x hx => okB_wf x ((h s hs).2.2.2.2 x hx)
theorem isB_wf (l : List Int) (h : ∀ x ∈ l, (Lit.int .u8 x).wf = true) : isB l = true := List.all_eq_true.2 fun x hx => okB_wf x (h x hx)
end
end Go.Proofs.Ytillfbohengpaaa
end
section
set_option linter.unusedVariables false
set_option linter.unusedSimpArgs false
namespace Go.Proofs.Ytillfbohengpaaa
open Go.RowKit Gf Go.Proofs.YtillfbohengpaaaW.PrintWords PA
theorem sane_f : testamurlaw08_sane.f = some true := rfl
theorem join_f (L : List Sh) : shares_Join.f (L.map sI) = some ((joinR L).map tI, joinE L) := by
  unfold shares_Join.f
  rw [if_pos (okS_sI L), shG_map]
end Go.Proofs.Ytillfbohengpaaa
end
