/-
  Texts of this session and laid words, merged in their order and pruned: PAtestamurlaw08SharesSum, PureS.
-/
import Derived.Test.YtillfbohengpaaaKX1
import Derived.Test.YtillfbohengpaaaKX5
import Derived.Test.YtillfbohengpaaaKX6
section
namespace Go.Proofs.Ytillfbohengpaaa.PA
open Go.RowKit Go.Proofs.YtillfbohengpaaaW.PrintWords Go.Proofs.YtillfbohengpaaaW.PrintLast Go.Proofs.YtillfbohengpaaaW.PrintMore
attribute [local go_sem] max2_int min2_int max_two min_two max_three min_three max_four min_four   -- for this text's walks alone
set_option linter.unusedVariables false
set_option linter.unusedSimpArgs false
mutual
def testamurlaw08_SharesSum.j0 : Nat → List Int → List Int → Int → Int → List Int → List Int → Bool → Option (Bool)
 | 0, _, _, _, _, _, _, _ => none
 | k + 1, x0, x1, x2, x3, x4, x5, x45 => if x45 = true then (some true) else ((shares_Split.f x0 0 x2 x3 x4).bind fun bt464 => ((shares_Split.f x1 0 x2 x3 x5).bind fun bt468 => (if bt464.2 = 0 then (if bt468.2 = 0 then (testamurlaw08_SharesSum.j1 k x0 x1 bt464.1 bt464.2 bt468.1 bt468.2 ((bt464.1.length : Int) != (bt468.1.length : Int))) else (testamurlaw08_SharesSum.j1 k x0 x1 bt464.1 bt464.2 bt468.1 bt468.2 true)) else (testamurlaw08_SharesSum.j1 k x0 x1 bt464.1 bt464.2 bt468.1 bt468.2 true))))
def testamurlaw08_SharesSum.j1 : Nat → List Int → List Int → List (S52) → Int → List (S52) → Int → Bool → Option (Bool)
 | 0, _, _, _, _, _, _, _ => none
 | k + 1, x0, x1, x13, x14, x15, x16, x74 => if x74 = true then (if x14 = 0 then (some (x16 != 0)) else (some true)) else (testamurlaw08_SharesSum.l0 k x0 x1 x13 x15 ([] : List (S52)) (x13.length : Int) 0)
def testamurlaw08_SharesSum.l0 : Nat → List Int → List Int → List (S52) → List (S52) → List (S52) → Int → Int → Option (Bool)
 | 0, _, _, _, _, _, _, _ => none
 | k + 1, x0, x1, x13, x15, x17, x82, x83 => if x83 < x82 then (if 0 ≤ x83 then (if x83 < (x13.length : Int) then (if (((rd_T52 x13 x83).f4).length : Int) = (x0.length : Int) then (if x83 < (x15.length : Int) then (testamurlaw08_SharesSum.j3 k x0 x1 x13 x15 x17 x83 x82 x83 ((((rd_T52 x15 x83).f4).length : Int) != (x0.length : Int)) ((rd_T52 x13 x83).f0) ((rd_T52 x13 x83).f1) ((rd_T52 x13 x83).f2) ((rd_T52 x13 x83).f3)) else (none)) else (testamurlaw08_SharesSum.j3 k x0 x1 x13 x15 x17 x83 x82 x83 true ((rd_T52 x13 x83).f0) ((rd_T52 x13 x83).f1) ((rd_T52 x13 x83).f2) ((rd_T52 x13 x83).f3))) else (none)) else (none)) else ((shares_Join.f x17).bind fun bt486 => (if bt486.2 = 0 then (testamurlaw08_SharesSum.j5 k x0 x1 bt486.1 ((bt486.1.length : Int) != (x0.length : Int))) else (testamurlaw08_SharesSum.j5 k x0 x1 bt486.1 true)))
def testamurlaw08_SharesSum.j3 : Nat → List Int → List Int → List (S52) → List (S52) → List (S52) → Int → Int → Int → Bool → Int → Int → Int → Int → Option (Bool)
 | 0, _, _, _, _, _, _, _, _, _, _, _, _, _ => none
 | k + 1, x0, x1, x13, x15, x17, x18, x82, x83, x110, x474000, x474001, x474002, x474003 => if x110 = true then (some false) else (testamurlaw08_SharesSum.l1 k x0 x1 x13 x15 x17 x18 x82 x83 (x0.length : Int) 0 x474000 x474001 x474002 x474003 ([] : List Int))
def testamurlaw08_SharesSum.l1 : Nat → List Int → List Int → List (S52) → List (S52) → List (S52) → Int → Int → Int → Int → Int → Int → Int → Int → Int → List Int → Option (Bool)
 | 0, _, _, _, _, _, _, _, _, _, _, _, _, _, _, _ => none
 | k + 1, x0, x1, x13, x15, x17, x18, x82, x83, x112, x113, x474000, x474001, x474002, x474003, x474004 => if x113 < x112 then (if 0 ≤ x18 then (if x18 < (x13.length : Int) then (if 0 ≤ x113 then (if x113 < (((rd_T52 x13 x18).f4).length : Int) then (if x18 < (x15.length : Int) then (if x113 < (((rd_T52 x15 x18).f4).length : Int) then (if x474004.length < 140737488355328 then (testamurlaw08_SharesSum.l1 k x0 x1 x13 x15 x17 x18 x82 x83 x112 (wrap64 (x113 + 1)) x474000 x474001 x474002 x474003 (x474004 ++ [Go.bits .xor .u8 (rd ((rd_T52 x13 x18).f4) x113) (rd ((rd_T52 x15 x18).f4) x113)])) else (none)) else (none)) else (none)) else (none)) else (none)) else (none)) else (none)) else (if x17.length < 2513169434916 then (testamurlaw08_SharesSum.l0 k x0 x1 x13 x15 (x17 ++ [(⟨x474000, x474001, x474002, x474003, x474004⟩ : S52)]) x82 (wrap64 (x83 + 1))) else (none))
def testamurlaw08_SharesSum.j5 : Nat → List Int → List Int → List Int → Bool → Option (Bool)
 | 0, _, _, _, _ => none
 | k + 1, x0, x1, x21, x157 => if x157 = true then (some false) else (testamurlaw08_SharesSum.l2 k x0 x1 x21 (x0.length : Int) 0)
def testamurlaw08_SharesSum.l2 : Nat → List Int → List Int → List Int → Int → Int → Option (Bool)
 | 0, _, _, _, _, _ => none
 | k + 1, x0, x1, x21, x159, x160 => if x160 < x159 then (if 0 ≤ x160 then (if x160 < (x21.length : Int) then (if x160 < (x0.length : Int) then (if x160 < (x1.length : Int) then (if (rd x21 x160) = (Go.bits .xor .u8 (rd x0 x160) (rd x1 x160)) then (testamurlaw08_SharesSum.l2 k x0 x1 x21 x159 (wrap64 (x160 + 1))) else (some false)) else (none)) else (none)) else (none)) else (none)) else (some true)
end
def testamurlaw08_SharesSum.f (k : Nat) (l0 : List Int) (l1 : List Int) (a2 : Int) (a3 : Int) (l4 : List Int) (l5 : List Int) : Option (Bool) := (testamurlaw08_sane.f).bind fun t463 => (if t463 = true then (if (l0.length : Int) > 20 then (testamurlaw08_SharesSum.j0 k l0 l1 a2 a3 l4 l5 true) else (if (l0.length : Int) = (l1.length : Int) then (if (l4.length : Int) > 200 then (testamurlaw08_SharesSum.j0 k l0 l1 a2 a3 l4 l5 true) else (testamurlaw08_SharesSum.j0 k l0 l1 a2 a3 l4 l5 (decide ((l5.length : Int) > 200)))) else (testamurlaw08_SharesSum.j0 k l0 l1 a2 a3 l4 l5 true))) else (some false))
def testamurlaw08_SharesSum.T20 : Bool × List (List Nat × List Nat) := (true, [([], []), ([0], [0]), ([], []), ([], []), ([2, 3], [2, 3]), ([4], [4]), ([5], [5]), ([], []), ([6, 7], [6, 7]), ([8], [8]), ([], []), ([], []), ([10, 11], [10, 11]), ([12], [12]), ([13], [13]), ([], []), ([14, 15], [14, 15]), ([16], [16]), ([9, 17], [9, 17]), ([18], [18]), ([1, 19], [1, 19]), ([0, 1, 2, 3, 4, 5, 6, 7, 8, 9, 10, 11, 12, 13, 14, 15, 16, 17, 18, 19, 20], []), ([21, 20, 20, 0, 1, 2, 3, 4, 5, 6, 7, 8, 9, 10, 11, 12, 13, 14, 15, 16, 17, 18, 19, 20], [20, 21])])
def testamurlaw08_SharesSum.B20 : List Nat := [0, 1, 0, 0, 12, 28, 60, 0, 252, 508, 0, 0, 3072, 7168, 15360, 0, 64512, 130048, 262140, 524284, 1048575, 2097151, 4194303]
theorem testamurlaw08_SharesSum.tab20 : rtab .any (opsOf Try.f14 20) = testamurlaw08_SharesSum.T20 := by kernel_rfl
theorem testamurlaw08_SharesSum.bits20 : waitsOk testamurlaw08_SharesSum.T20.2 testamurlaw08_SharesSum.B20 = true := by kernel_rfl
def testamurlaw08_SharesSum.T30 : Bool × List (List Nat × List Nat) := (true, [([], []), ([], []), ([0, 1], [0, 1]), ([2], [2]), ([], []), ([], []), ([4, 5], [4, 5]), ([6], [6]), ([], []), ([], []), ([8, 9], [8, 9]), ([10], [10]), ([7, 11], [7, 11]), ([3, 12], [3, 12])])
def testamurlaw08_SharesSum.B30 : List Nat := [0, 0, 3, 7, 0, 0, 48, 112, 0, 0, 768, 1792, 4080, 8191]
theorem testamurlaw08_SharesSum.tab30 : rtab .any (opsOf Try.f14 30) = testamurlaw08_SharesSum.T30 := by kernel_rfl
theorem testamurlaw08_SharesSum.bits30 : waitsOk testamurlaw08_SharesSum.T30.2 testamurlaw08_SharesSum.B30 = true := by kernel_rfl
set_option maxHeartbeats 8000000 in
set_option maxRecDepth 100000 in
theorem testamurlaw08_SharesSum.calls (k : Nat) (A0 : Option Addr) (c0 : Nat) (l0 : List Int) (A1 : Option Addr) (c1 : Nat) (l1 : List Int) (a2 : Int) (a3 : Int) (A4 : Option Addr) (c4 : Nat) (l4 : List Int) (A5 : Option Addr) (c5 : Nat) (l5 : List Int) (r : Bool) (w : World) (hr0 : Kd.C (Kd.int .u8) w A0 l0.length l0) (hc0 : l0.length ≤ c0) (hr1 : Kd.C (Kd.int .u8) w A1 l1.length l1) (hc1 : l1.length ≤ c1) (hr4 : Kd.C (Kd.int .u8) w A4 l4.length l4) (hc4 : l4.length ≤ c4) (hr5 : Kd.C (Kd.int .u8) w A5 l5.length l5) (hc5 : l5.length ≤ c5) (h : testamurlaw08_SharesSum.f k l0 l1 a2 a3 l4 l5 = some r) :
 Calls Try.prog 14 #[.slice A0 l0.length c0, .slice A1 l1.length c1, .int .i64 a2, .int .i64 a3, .slice A4 l4.length c4, .slice A5 l5.length c5] w fun e w' => e = .returned (.bool r) ∧ Below w.heap.size w w' := by
 have hu52 := Try.underlying52
 have HR0 := Aside0.mk hr0
 have HC0 := Aside0.mk hc0
 clear hr0 hc0
 have HR1 := Aside0.mk hr1
 have HC1 := Aside0.mk hc1
 clear hr1 hc1
 have HR4 := Aside0.mk hr4
 have HC4 := Aside0.mk hc4
 clear hr4 hc4
 have HR5 := Aside0.mk hr5
 have HC5 := Aside0.mk hc5
 clear hr5 hc5
 have HB := Aside0.mk (Below.refl w.heap.size w)
 have H : ((testamurlaw08_sane.f).bind fun t463 => (if t463 = true then (if (l0.length : Int) > 20 then (testamurlaw08_SharesSum.j0 k l0 l1 a2 a3 l4 l5 true) else (if (l0.length : Int) = (l1.length : Int) then (if (l4.length : Int) > 200 then (testamurlaw08_SharesSum.j0 k l0 l1 a2 a3 l4 l5 true) else (testamurlaw08_SharesSum.j0 k l0 l1 a2 a3 l4 l5 (decide ((l5.length : Int) > 200)))) else (testamurlaw08_SharesSum.j0 k l0 l1 a2 a3 l4 l5 true))) else (some false))) = some r := h
 clear h
 replace H := Option.bind_eq_some_iff.mp H
 obtain ⟨t463, A70, H⟩ := H
 replace H : (if t463 = true then (if (l0.length : Int) > 20 then (testamurlaw08_SharesSum.j0 k l0 l1 a2 a3 l4 l5 true) else (if (l0.length : Int) = (l1.length : Int) then (if (l4.length : Int) > 200 then (testamurlaw08_SharesSum.j0 k l0 l1 a2 a3 l4 l5 true) else (testamurlaw08_SharesSum.j0 k l0 l1 a2 a3 l4 l5 (decide ((l5.length : Int) > 200)))) else (testamurlaw08_SharesSum.j0 k l0 l1 a2 a3 l4 l5 true))) else (some false)) = some r := H
 have A7 := Aside0.mk A70
 clear A70
 by_cases c8 : t463 = true
 · subst c8
   have H1 : (if (l0.length : Int) > 20 then (testamurlaw08_SharesSum.j0 k l0 l1 a2 a3 l4 l5 true) else (if (l0.length : Int) = (l1.length : Int) then (if (l4.length : Int) > 200 then (testamurlaw08_SharesSum.j0 k l0 l1 a2 a3 l4 l5 true) else (testamurlaw08_SharesSum.j0 k l0 l1 a2 a3 l4 l5 (decide ((l5.length : Int) > 200)))) else (testamurlaw08_SharesSum.j0 k l0 l1 a2 a3 l4 l5 true))) = some r := by rw [if_pos rfl] at H; exact H
   clear H
   have H := H1
   clear H1
   have HC9 := Aside0.mk H
   clear H
   go_enter Try.func14, Try.ntmps14
   go_upto_region 3 with (first | ((with_reducible refine gate_callee (f := 23) rfl ?_); refine goesL_ (some 24) rfl rfl Try.func23 (by kernel_rfl) rfl #[] rfl (by (try simp only [List.map_toArray, List.map_cons, List.map_nil]); first | done | rfl | (simp only [List.length_drop, List.length_take]; rfl)) ?_; (with_reducible refine (testamurlaw08_sane.calls  true _ A7.out).mono ?_); rintro e w10 ⟨rfl, hb⟩; refine ⟨_, rfl, ?_⟩; have n0_ := Aside0.mk (below_step (by repeat (first | (with_reducible first | exact HB.out | apply below_alloc | apply pw_below_drewN | apply below_drew1) | exact HB.out)) hb); clear HB; have HB := n0_; clear n0_; (try clear hb); (try clear hb2); (try clear hk); (try clear hi)))
   (try simp only [Act.put, List.setIfInBounds_toArray, List.set_cons_zero, List.set_cons_succ])
   go_cut [45] (fun v45 wc => ∃ (kq : Nat) (x45_8 : Bool), v45 = .bool x45_8 ∧ Aside0 (testamurlaw08_SharesSum.j0 kq l0 l1 a2 a3 l4 l5 x45_8 = some r) ∧ Aside0 (kq ≤ k) ∧ Aside0 (Below w.heap.size w wc))
   case first =>
    have H := HC9.out
    clear HC9
    by_cases c11 : (l0.length : Int) > 20
    · rw [if_pos c11] at H
      have c11b0 : decide (20 < (l0.length : Int)) = true := decide_eq_true c11
      have c11b1 : decide (20 < l0.length) = true := decide_eq_true (by omega)
      clear c11
      (first | rw [c11b0] | (simp only [i64_w, i32_w]; rw [c11b0]) | skip)
      have H' := Aside0.mk H
      clear H
      go_wp2
      go_meet
      case rel => exact ⟨_, (true), (by first | rfl | (simp; done) | (simp [*]; done)), H', ⟨by first | omega | exact Nat.le_refl _⟩, ⟨by repeat (first | (with_reducible first | exact HB.out | apply below_alloc | apply pw_below_drewN | apply below_drew1) | exact HB.out)⟩⟩
    · rw [if_neg c11] at H
      have c11b0 : decide (20 < (l0.length : Int)) = false := decide_eq_false c11
      have c11b1 : decide (20 < l0.length) = false := decide_eq_false (by omega)
      clear c11
      (first | rw [c11b0] | (simp only [i64_w, i32_w]; rw [c11b0]) | skip)
      by_cases c12 : (l0.length : Int) = (l1.length : Int)
      · rw [if_pos c12] at H
        have c12b0 : ((l0.length : Int) == (l1.length : Int)) = true := beq_iff_eq.mpr c12
        have c12b1 : ((l0.length : Int) != (l1.length : Int)) = false := bne_eq_false_iff_eq.mpr c12
        have c12b2 : (l0.length == l1.length) = true := by first | simpa using c12 | (simp at c12 ⊢; omega)
        clear c12
        by_cases c13 : (l4.length : Int) > 200
        · rw [if_pos c13] at H
          have c13b0 : decide (200 < (l4.length : Int)) = true := decide_eq_true c13
          have c13b1 : decide (200 < l4.length) = true := decide_eq_true (by omega)
          clear c13
          have H' := Aside0.mk H
          clear H
          go_wp2
          go_meet
          case rel => exact ⟨_, (true), (by first | rfl | (simp; done) | (simp [*]; done)), H', ⟨by first | omega | exact Nat.le_refl _⟩, ⟨by repeat (first | (with_reducible first | exact HB.out | apply below_alloc | apply pw_below_drewN | apply below_drew1) | exact HB.out)⟩⟩
        · rw [if_neg c13] at H
          have c13b0 : decide (200 < (l4.length : Int)) = false := decide_eq_false c13
          have c13b1 : decide (200 < l4.length) = false := decide_eq_false (by omega)
          clear c13
          have H' := Aside0.mk H
          clear H
          go_wp2
          go_meet
          case rel => exact ⟨_, (decide ((l5.length : Int) > 200)), (by first | rfl | (simp; done) | (simp [*]; done)), H', ⟨by first | omega | exact Nat.le_refl _⟩, ⟨by repeat (first | (with_reducible first | exact HB.out | apply below_alloc | apply pw_below_drewN | apply below_drew1) | exact HB.out)⟩⟩
      · rw [if_neg c12] at H
        have c12b0 : ((l0.length : Int) == (l1.length : Int)) = false := beq_eq_false_iff_ne.mpr c12
        have c12b1 : ((l0.length : Int) != (l1.length : Int)) = true := bne_iff_ne.mpr c12
        have c12b2 : (l0.length == l1.length) = false := by first | simpa using c12 | (simp at c12 ⊢; omega)
        have H' := Aside0.mk H
        clear H
        go_wp2
        go_meet
        case rel => exact ⟨_, (true), (by first | rfl | (simp; done) | (simp [*]; done)), H', ⟨by first | omega | exact Nat.le_refl _⟩, ⟨by repeat (first | (with_reducible first | exact HB.out | apply below_alloc | apply pw_below_drewN | apply below_drew1) | exact HB.out)⟩⟩
   case rest =>
    clear HC9
    try clear c1
    try clear c2
    try clear p2
    try clear c4
    try clear c5
    try clear c8
    try clear c11
    try clear c11b0
    try clear c11b1
    try clear c12
    try clear c12b0
    try clear c12b1
    try clear c12b2
    try clear c13
    try clear c13b0
    try clear c13b1
    obtain ⟨kq, x45_8, rfl, HA, HJ8, HB⟩ := hcut
    cases kq with
    | zero => exact absurd HA.out (by simp [testamurlaw08_SharesSum.j0])
    | succ kj8 =>
     have H := HA.out
     clear HA
     simp only [testamurlaw08_SharesSum.j0] at H
     by_cases c14 : x45_8 = true
     · subst c14
       have H1 : (some true) = some r := by rw [if_pos rfl] at H; exact H
       clear H
       have H := H1
       clear H1
       obtain rfl := Option.some.inj H
       go_wp2
       go_ret
       exact ⟨by first | rfl | (simp [errW_none, errW_some] <;> rfl) | (simp [*, errW_none, errW_some] <;> rfl), by repeat (first | (with_reducible first | exact HB.out | apply below_alloc | apply pw_below_drewN | apply below_drew1) | exact HB.out)⟩
     · replace c14 := Bool.eq_false_iff.mpr c14
       subst c14
       have H1 : ((shares_Split.f l0 0 a2 a3 l4).bind fun bt464 => ((shares_Split.f l1 0 a2 a3 l5).bind fun bt468 => (if bt464.2 = 0 then (if bt468.2 = 0 then (testamurlaw08_SharesSum.j1 kj8 l0 l1 bt464.1 bt464.2 bt468.1 bt468.2 ((bt464.1.length : Int) != (bt468.1.length : Int))) else (testamurlaw08_SharesSum.j1 kj8 l0 l1 bt464.1 bt464.2 bt468.1 bt468.2 true)) else (testamurlaw08_SharesSum.j1 kj8 l0 l1 bt464.1 bt464.2 bt468.1 bt468.2 true)))) = some r := by rw [if_neg (show ¬ (false = true) by decide)] at H; exact H
       clear H
       have H := H1
       clear H1
       replace H := Option.bind_eq_some_iff.mp H
       obtain ⟨⟨t464, t465⟩, A150, H⟩ := H
       replace H : ((shares_Split.f l1 0 a2 a3 l5).bind fun bt468 => (if t465 = 0 then (if bt468.2 = 0 then (testamurlaw08_SharesSum.j1 kj8 l0 l1 t464 t465 bt468.1 bt468.2 ((t464.length : Int) != (bt468.1.length : Int))) else (testamurlaw08_SharesSum.j1 kj8 l0 l1 t464 t465 bt468.1 bt468.2 true)) else (testamurlaw08_SharesSum.j1 kj8 l0 l1 t464 t465 bt468.1 bt468.2 true))) = some r := H
       have A15 := Aside0.mk A150
       clear A150
       replace H := Option.bind_eq_some_iff.mp H
       obtain ⟨⟨t468, t469⟩, A160, H⟩ := H
       replace H : (if t465 = 0 then (if t469 = 0 then (testamurlaw08_SharesSum.j1 kj8 l0 l1 t464 t465 t468 t469 ((t464.length : Int) != (t468.length : Int))) else (testamurlaw08_SharesSum.j1 kj8 l0 l1 t464 t465 t468 t469 true)) else (testamurlaw08_SharesSum.j1 kj8 l0 l1 t464 t465 t468 t469 true)) = some r := H
       have A16 := Aside0.mk A160
       clear A160
       have HC17 := Aside0.mk H
       clear H
       go_upto_region 7 with (first | ((with_reducible refine gate_callee (f := 25) rfl ?_); refine goesL_ (some 51) rfl rfl Try.func25 (by kernel_rfl) rfl #[.slice A0 l0.length c0, .int .i64 0, .int .i64 a2, .int .i64 a3, .slice A4 l4.length c4] rfl (by (try simp only [List.map_toArray, List.map_cons, List.map_nil]); first | done | rfl | (simp only [List.length_drop, List.length_take]; rfl)) ?_; (with_reducible refine (shares_Split.calls _ _ l0 0 a2 a3 _ _ l4 t464 t465 _ ?side1 ?side2 ?side3 ?side4 A15.out).mono ?_); (case side1 => repeat (first | exact (Kd.C_below HR0.out HB.out) | (with_reducible refine Kd.C_alloc ?_ _) | (with_reducible refine Kd.C_drewN ?_ _) | (with_reducible refine Kd.C_drew ?_))); (case side2 => exact HC0.out); (case side3 => repeat (first | exact (Kd.C_below HR4.out HB.out) | (with_reducible refine Kd.C_alloc ?_ _) | (with_reducible refine Kd.C_drewN ?_ _) | (with_reducible refine Kd.C_drew ?_))); (case side4 => exact HC4.out); rintro e w18 ⟨v466, rfl, ho0, hb⟩; refine ⟨_, rfl, ?_⟩; have n0_ := Aside0.mk (Kd.S_lower ho0 (below_size (by repeat (first | (with_reducible first | exact HB.out | apply below_alloc | apply pw_below_drewN | apply below_drew1) | exact HB.out)))); have n1_ := Aside0.mk (below_step (by repeat (first | (with_reducible first | exact HB.out | apply below_alloc | apply pw_below_drewN | apply below_drew1) | exact HB.out)) hb); clear HB; have HO467 := n0_; have HB := n1_; clear n0_ n1_; (try clear hb); (try clear hb2); (try clear hk); (try clear hi); (try clear ho0)) | ((with_reducible refine gate_callee (f := 25) rfl ?_); refine goesL_ (some 59) rfl rfl Try.func25 (by kernel_rfl) rfl #[.slice A1 l1.length c1, .int .i64 0, .int .i64 a2, .int .i64 a3, .slice A5 l5.length c5] rfl (by (try simp only [List.map_toArray, List.map_cons, List.map_nil]); first | done | rfl | (simp only [List.length_drop, List.length_take]; rfl)) ?_; (with_reducible refine (shares_Split.calls _ _ l1 0 a2 a3 _ _ l5 t468 t469 _ ?side1 ?side2 ?side3 ?side4 A16.out).mono ?_); (case side1 => repeat (first | exact (Kd.C_below HR1.out HB.out) | (with_reducible refine Kd.C_alloc ?_ _) | (with_reducible refine Kd.C_drewN ?_ _) | (with_reducible refine Kd.C_drew ?_))); (case side2 => exact HC1.out); (case side3 => repeat (first | exact (Kd.C_below HR5.out HB.out) | (with_reducible refine Kd.C_alloc ?_ _) | (with_reducible refine Kd.C_drewN ?_ _) | (with_reducible refine Kd.C_drew ?_))); (case side4 => exact HC5.out); rintro e w19 ⟨v470, rfl, ho0, hb⟩; refine ⟨_, rfl, ?_⟩; have n0_ := Aside0.mk (Kd.S_elder' (by (with_reducible repeat (first | apply Kd.S_alloc | apply Kd.S_drewN | apply Kd.S_drew)); exact HO467.out) (Kd.S_base ho0) hb); have n1_ := Aside0.mk (Kd.S_lower (Kd.S_new' ho0 (Kd.S_lt (by (with_reducible repeat (first | apply Kd.S_alloc | apply Kd.S_drewN | apply Kd.S_drew)); exact HO467.out))) (below_size (by repeat (first | (with_reducible first | exact HB.out | apply below_alloc | apply pw_below_drewN | apply below_drew1) | exact HB.out)))); have n2_ := Aside0.mk (below_step (by repeat (first | (with_reducible first | exact HB.out | apply below_alloc | apply pw_below_drewN | apply below_drew1) | exact HB.out)) hb); clear HO467; clear HB; have HO467 := n0_; have HO471 := n1_; have HB := n2_; clear n0_ n1_ n2_; (try clear hb); (try clear hb2); (try clear hk); (try clear hi); (try clear ho0)))
       (try simp only [Act.put, List.setIfInBounds_toArray, List.set_cons_zero, List.set_cons_succ])
       go_cut [74] (fun v74 wc => ∃ (kq : Nat) (x74_16 : Bool), v74 = .bool x74_16 ∧ Aside0 (testamurlaw08_SharesSum.j1 kq l0 l1 t464 t465 t468 t469 x74_16 = some r) ∧ Aside0 (kq ≤ kj8) ∧ Aside0 (Kd.S k52 52 wc w.heap.size (fun k_ => some k_ ≠ (v470 : Value).ownBlock) v466 t464) ∧ Aside0 (Kd.S k52 52 wc w.heap.size (fun k_ => some k_ ≠ (v466 : Value).ownBlock) v470 t468) ∧ Aside0 (Below w.heap.size w wc))
       case first =>
        have H := HC17.out
        clear HC17
        by_cases c20 : t465 = 0
        · rw [if_pos c20] at H
          have c20b0 : (t465 == 0) = true := beq_iff_eq.mpr c20
          have c20b1 : (t465 != 0) = false := bne_eq_false_iff_eq.mpr c20
          clear c20
          (first | rw [c20b0] | (simp only [i64_w, i32_w]; rw [c20b0]) | skip)
          by_cases c21 : t469 = 0
          · rw [if_pos c21] at H
            have c21b0 : (t469 == 0) = true := beq_iff_eq.mpr c21
            have c21b1 : (t469 != 0) = false := bne_eq_false_iff_eq.mpr c21
            clear c21
            have H' := Aside0.mk H
            clear H
            obtain ⟨Ao22, co22, eo22⟩ := Kd.S_slice HO467.out
            subst eo22
            obtain ⟨Ao23, co23, eo23⟩ := Kd.S_slice HO471.out
            subst eo23
            go_wp2
            go_meet
            case rel => exact ⟨_, (((t464.length : Int) != (t468.length : Int))), (by first | rfl | (simp; done) | (simp [*]; done)), H', ⟨by have := HJ8.out; first | omega | exact Nat.le_refl _⟩, ⟨by (with_reducible repeat (first | apply Kd.S_alloc | apply Kd.S_drewN | apply Kd.S_drew)); exact Kd.S_mono HO467.out (fun _ hk => hk.2)⟩, ⟨by (with_reducible repeat (first | apply Kd.S_alloc | apply Kd.S_drewN | apply Kd.S_drew)); exact Kd.S_mono HO471.out (fun _ hk => hk.2)⟩, ⟨by repeat (first | (with_reducible first | exact HB.out | apply below_alloc | apply pw_below_drewN | apply below_drew1) | exact HB.out)⟩⟩
          · rw [if_neg c21] at H
            have c21b0 : (t469 == 0) = false := beq_eq_false_iff_ne.mpr c21
            have c21b1 : (t469 != 0) = true := bne_iff_ne.mpr c21
            have H' := Aside0.mk H
            clear H
            go_wp2
            go_meet
            case rel => exact ⟨_, (true), (by first | rfl | (simp; done) | (simp [*]; done)), H', ⟨by have := HJ8.out; first | omega | exact Nat.le_refl _⟩, ⟨by (with_reducible repeat (first | apply Kd.S_alloc | apply Kd.S_drewN | apply Kd.S_drew)); exact Kd.S_mono HO467.out (fun _ hk => hk.2)⟩, ⟨by (with_reducible repeat (first | apply Kd.S_alloc | apply Kd.S_drewN | apply Kd.S_drew)); exact Kd.S_mono HO471.out (fun _ hk => hk.2)⟩, ⟨by repeat (first | (with_reducible first | exact HB.out | apply below_alloc | apply pw_below_drewN | apply below_drew1) | exact HB.out)⟩⟩
        · rw [if_neg c20] at H
          have c20b0 : (t465 == 0) = false := beq_eq_false_iff_ne.mpr c20
          have c20b1 : (t465 != 0) = true := bne_iff_ne.mpr c20
          (first | rw [c20b0] | (simp only [i64_w, i32_w]; rw [c20b0]) | skip)
          have H' := Aside0.mk H
          clear H
          go_wp2
          go_meet
          case rel => exact ⟨_, (true), (by first | rfl | (simp; done) | (simp [*]; done)), H', ⟨by have := HJ8.out; first | omega | exact Nat.le_refl _⟩, ⟨by (with_reducible repeat (first | apply Kd.S_alloc | apply Kd.S_drewN | apply Kd.S_drew)); exact Kd.S_mono HO467.out (fun _ hk => hk.2)⟩, ⟨by (with_reducible repeat (first | apply Kd.S_alloc | apply Kd.S_drewN | apply Kd.S_drew)); exact Kd.S_mono HO471.out (fun _ hk => hk.2)⟩, ⟨by repeat (first | (with_reducible first | exact HB.out | apply below_alloc | apply pw_below_drewN | apply below_drew1) | exact HB.out)⟩⟩
       case rest =>
        clear HC17
        try clear c1
        try clear c2
        try clear p2
        try clear c4
        try clear c5
        try clear c8
        try clear c11
        try clear c11b0
        try clear c11b1
        try clear c12
        try clear c12b0
        try clear c12b1
        try clear c12b2
        try clear c13
        try clear c13b0
        try clear c13b1
        try clear c14
        try clear c20
        try clear c20b0
        try clear c20b1
        try clear c21
        try clear c21b0
        try clear c21b1
        try clear c23
        try clear p2
        obtain ⟨kq, x74_16, rfl, HA, HJ16, HO_13, HO_15, HB⟩ := hcut
        cases kq with
        | zero => exact absurd HA.out (by simp [testamurlaw08_SharesSum.j1])
        | succ kj16 =>
         have H := HA.out
         clear HA
         simp only [testamurlaw08_SharesSum.j1] at H
         by_cases c24 : x74_16 = true
         · subst c24
           have H1 : (if t465 = 0 then (some (t469 != 0)) else (some true)) = some r := by rw [if_pos rfl] at H; exact H
           clear H
           have H := H1
           clear H1
           by_cases c25 : t465 = 0
           · rw [if_pos c25] at H
             have c25b0 : (t465 == 0) = true := beq_iff_eq.mpr c25
             have c25b1 : (t465 != 0) = false := bne_eq_false_iff_eq.mpr c25
             clear c25
             obtain rfl := Option.some.inj H
             go_wp2
             go_ret
             exact ⟨by first | rfl | (simp [errW_none, errW_some] <;> rfl) | (simp [*, errW_none, errW_some] <;> rfl), by repeat (first | (with_reducible first | exact HB.out | apply below_alloc | apply pw_below_drewN | apply below_drew1) | exact HB.out)⟩
           · rw [if_neg c25] at H
             have c25b0 : (t465 == 0) = false := beq_eq_false_iff_ne.mpr c25
             have c25b1 : (t465 != 0) = true := bne_iff_ne.mpr c25
             obtain rfl := Option.some.inj H
             go_wp2
             go_ret
             exact ⟨by first | rfl | (simp [errW_none, errW_some] <;> rfl) | (simp [*, errW_none, errW_some] <;> rfl), by repeat (first | (with_reducible first | exact HB.out | apply below_alloc | apply pw_below_drewN | apply below_drew1) | exact HB.out)⟩
         · replace c24 := Bool.eq_false_iff.mpr c24
           subst c24
           have H1 : (testamurlaw08_SharesSum.l0 kj16 l0 l1 t464 t468 ([] : List (S52)) (t464.length : Int) 0) = some r := by rw [if_neg (show ¬ (false = true) by decide)] at H; exact H
           clear H
           have H := H1
           clear H1
           have H' := Aside0.mk H
           clear H
           obtain ⟨Ao26, co26, eo26⟩ := Kd.S_slice HO_13.out
           subst eo26
           go_wp2
           go_loopg [17, 83] kj16 (fun kq v17 v83 w' => ∃ (x17_3 : List (S52)) (x83_3 : Int), v83 = .int .i64 x83_3 ∧ Aside0 (testamurlaw08_SharesSum.l0 kq l0 l1 t464 t468 x17_3 (t464.length : Int) x83_3 = some r) ∧ Aside0 (kq ≤ kj16) ∧ Aside0 (Kd.S k52 52 w' w.heap.size (fun k_ => some k_ ≠ (v470 : Value).ownBlock ∧ some k_ ≠ (v17 : Value).ownBlock) (.slice Ao26 t464.length co26) t464) ∧ Aside0 (Kd.S k52 52 w' w.heap.size (fun k_ => some k_ ≠ ((.slice Ao26 t464.length co26) : Value).ownBlock ∧ some k_ ≠ (v17 : Value).ownBlock) v470 t468) ∧ Aside0 (Kd.S k52 52 w' w.heap.size (fun k_ => some k_ ≠ ((.slice Ao26 t464.length co26) : Value).ownBlock ∧ some k_ ≠ (v470 : Value).ownBlock) v17 x17_3) ∧ Aside0 (Below w.heap.size w w'))
           case atStart => exact ⟨(([] : List (S52))), (0), (by first | rfl | (simp; done) | (simp [*]; done)), H', ⟨Nat.le_refl _⟩, ⟨by (with_reducible repeat (first | apply Kd.S_alloc | apply Kd.S_drewN | apply Kd.S_drew)); exact Kd.S_mono HO_13.out (fun _ hk => ⟨hk, (by simp [Value.ownBlock])⟩)⟩, ⟨by (with_reducible repeat (first | apply Kd.S_alloc | apply Kd.S_drewN | apply Kd.S_drew)); exact Kd.S_mono HO_15.out (fun _ hk => ⟨hk, (by simp [Value.ownBlock])⟩)⟩, ⟨by first | exact Kd.S_nil _ _ _ _ _ | exact Kd.N_nil _ _ _ _ _ | exact Kd.V_nil _ _ _ _ _ | exact Kd.Q_nil _ _ _ _ _ | exact Kd.R_nil _ _ _ _ _⟩, ⟨by repeat (first | (with_reducible first | exact HB.out | apply below_alloc | apply pw_below_drewN | apply below_drew1) | exact HB.out)⟩⟩
           case round =>
            clear H'
            try clear c1
            try clear c2
            try clear p2
            try clear c4
            try clear c5
            try clear c8
            try clear c11
            try clear c11b0
            try clear c11b1
            try clear c12
            try clear c12b0
            try clear c12b1
            try clear c12b2
            try clear c13
            try clear c13b0
            try clear c13b1
            try clear c14
            try clear c20
            try clear c20b0
            try clear c20b1
            try clear c21
            try clear c21b0
            try clear c21b1
            try clear c23
            try clear c24
            try clear c25
            try clear c25b0
            try clear c25b1
            try clear p2
            obtain ⟨x17_3, x83_3, rfl, HA, HK3, HO_13, HO_15, HO_17, HB⟩ := hrel
            cases gk with
            | zero => exact absurd HA.out (by simp [testamurlaw08_SharesSum.l0])
            | succ k3 =>
             have H := HA.out
             clear HA
             simp only [testamurlaw08_SharesSum.l0] at H
             by_cases c27 : x83_3 < (t464.length : Int)
             · rw [if_pos c27] at H
               have c27b0 : decide (x83_3 < (t464.length : Int)) = true := decide_eq_true c27
               clear c27
               by_cases c28 : 0 ≤ x83_3
               · rw [if_pos c28] at H
                 have c28b0 : decide (0 ≤ x83_3) = true := decide_eq_true c28
                 clear c28
                 by_cases c29 : x83_3 < (t464.length : Int)
                 · rw [if_pos c29] at H
                   have c29b0 : decide (x83_3 < (t464.length : Int)) = true := decide_eq_true c29
                   clear c29
                   have HC30 := Aside0.mk H
                   clear H
                   have p472 : 0 ≤ (x83_3 : Int) := of_decide_eq_true (by first | (with_reducible assumption) | assumption)
                   have q472 : x83_3 < (t464.length : Int) := of_decide_eq_true (by first | (with_reducible assumption) | assumption)
                   obtain ⟨ad472, A472_4, c472_4, e472, hx472_0, hx472_1, hx472_2, hx472_3, hx472_4, hl472_4, hi472_4⟩ := at_T52 (Kd.S_reads' HO_13.out).2.2 x83_3 p472 q472
                   cases e472
                   obtain ⟨ce472, hce472, hMe472, hcc472⟩ := Kd.S_get HO_13.out z52 x83_3 p472 (by first | exact q472 | exact of_decide_eq_true (by first | (with_reducible assumption) | assumption) | (have e_ := (Kd.S_reads' HO_13.out).1; omega))
                   obtain ⟨ve472_4, rfl, ge472_4⟩ := k52_openM hMe472
                   have hv472_4 := hcc472 4 _ rfl
                   rw [add_field _ _ 4 (by omega)] at hv472_4
                   replace hv472_4 := Option.some.inj (hv472_4.symm.trans hx472_4)
                   rw [hv472_4] at ge472_4
                   have HL472_4 := Aside0.mk (show Kd.R (Kd.int .u8) 5 _ _ _ _ ((rd_T52 t464 x83_3).f4) from ge472_4)
                   clear hv472_4 ge472_4
                   clear hcc472 hce472
                   have HR472_4 := Aside0.mk hi472_4
                   have HC472_4 := Aside0.mk hl472_4
                   clear hi472_4 hl472_4
                   replace p472 := eq_true p472
                   replace q472 := eq_true q472
                   go_upto_region 15 with (first | ((with_reducible refine gate_dst (N := 19) rfl ?_); (try (refine gate_guard (by rfl) ?_; dsimp only)); refine box_event ?hg (N := 19) ?hd (cs := #[.int .i64 0, .int .i64 0, .int .i64 0, .int .i64 0, .slice none 0 0]) (t := 52) ?hr ?_; (case hd => rfl); (case hg => rfl); (case hr => first | (go_simp; done) | (go_simp; rfl)); intro gb473 hg w31 hbox hb; have n0_ := Aside0.mk (Kd.S_below (Kd.S_elderB (by (with_reducible repeat (first | apply Kd.S_alloc | apply Kd.S_drewN | apply Kd.S_drew)); exact HO_13.out) gb473 (Nat.le_of_eq hg.symm)) hb); have n1_ := Aside0.mk (Kd.S_below (Kd.S_elderB (by (with_reducible repeat (first | apply Kd.S_alloc | apply Kd.S_drewN | apply Kd.S_drew)); exact HO_15.out) gb473 (Nat.le_of_eq hg.symm)) hb); have n2_ := Aside0.mk (Kd.S_below (Kd.S_elderB (by (with_reducible repeat (first | apply Kd.S_alloc | apply Kd.S_drewN | apply Kd.S_drew)); exact HO_17.out) gb473 (Nat.le_of_eq hg.symm)) hb); have n3_ := Aside0.mk (Kd.R_below (by (with_reducible repeat (first | apply Kd.R_alloc | apply Kd.R_drewN | apply Kd.R_drew)); exact HL472_4.out) hb); have n4_ := Aside0.mk (Kd.C_below (by repeat (first | (with_reducible exact HR472_4.out) | (with_reducible refine Kd.C_alloc ?_ _) | (with_reducible refine Kd.C_drewN ?_ _) | (with_reducible refine Kd.C_drew ?_) | exact HR472_4.out)) hb); have n5_ := Aside0.mk (below_step (by repeat (first | (with_reducible first | exact HB.out | apply below_alloc | apply pw_below_drewN | apply below_drew1) | exact HB.out)) hb); have n6_ := Aside0.mk (hbox); have n7_ := Aside0.mk ((by rw [hg]; exact (below_size (by repeat (first | (with_reducible first | exact HB.out | apply below_alloc | apply pw_below_drewN | apply below_drew1) | exact HB.out))) : w.heap.size ≤ gb473)); have n8_ := Aside0.mk ((by rw [hg]; exact (below_size (by repeat (first | (with_reducible first | exact HB.out | apply below_alloc | apply pw_below_drewN | apply below_drew1) | exact HB.out))) : w.heap.size ≤ gb473)); clear HO_13; clear HO_15; clear HO_17; clear HL472_4; clear HR472_4; clear HB; have HO_13 := n0_; have HO_15 := n1_; have HO_17 := n2_; have HL472_4 := n3_; have HR472_4 := n4_; have HB := n5_; have BK473 := n6_; have GW473 := n7_; have GE473 := n8_; clear n0_ n1_ n2_ n3_ n4_ n5_ n6_ n7_ n8_; clear hb hbox hg; have hcz32_0 : w31.cell? ⟨gb473, 0, none⟩ = some (.int .i64 0) := (blk_cell BK473.out 0).trans rfl; have hcz32_1 : w31.cell? ⟨gb473, 1, none⟩ = some (.int .i64 0) := (blk_cell BK473.out 1).trans rfl; have hcz32_2 : w31.cell? ⟨gb473, 2, none⟩ = some (.int .i64 0) := (blk_cell BK473.out 2).trans rfl; have hcz32_3 : w31.cell? ⟨gb473, 3, none⟩ = some (.int .i64 0) := (blk_cell BK473.out 3).trans rfl; have hcz32_4 : w31.cell? ⟨gb473, 4, none⟩ = some (.slice none 0 0) := (blk_cell BK473.out 4).trans rfl; have hfz32_0 := blk_frozen BK473.out 0; have hfz32_1 := blk_frozen BK473.out 1; have hfz32_2 := blk_frozen BK473.out 2; have hfz32_3 := blk_frozen BK473.out 3; have hfz32_4 := blk_frozen BK473.out 4))
                   (try simp only [Act.put, List.setIfInBounds_toArray, List.set_cons_zero, List.set_cons_succ])
                   go_cut [110] (fun v110 wc => ∃ (kq : Nat) (x110_29 : Bool), v110 = .bool x110_29 ∧ Aside0 (testamurlaw08_SharesSum.j3 kq l0 l1 t464 t468 x17_3 x83_3 (t464.length : Int) x83_3 x110_29 ((rd_T52 t464 x83_3).f0) ((rd_T52 t464 x83_3).f1) ((rd_T52 t464 x83_3).f2) ((rd_T52 t464 x83_3).f3) = some r) ∧ Aside0 (kq ≤ k3) ∧ Aside0 (Kd.S k52 52 wc w.heap.size (fun k_ => some k_ ≠ (v470 : Value).ownBlock ∧ some k_ ≠ (u17 : Value).ownBlock ∧ k_ ≠ gb473) (.slice (some ad472) t464.length co26) t464) ∧ Aside0 (Kd.S k52 52 wc w.heap.size (fun k_ => some k_ ≠ ((.slice (some ad472) t464.length co26) : Value).ownBlock ∧ some k_ ≠ (u17 : Value).ownBlock ∧ k_ ≠ gb473) v470 t468) ∧ Aside0 (Kd.S k52 52 wc w.heap.size (fun k_ => some k_ ≠ ((.slice (some ad472) t464.length co26) : Value).ownBlock ∧ some k_ ≠ (v470 : Value).ownBlock ∧ k_ ≠ gb473) u17 x17_3) ∧ Aside0 (wc.heap[gb473]? = some (.cells #[.int .i64 ((rd_T52 t464 x83_3).f0), .int .i64 ((rd_T52 t464 x83_3).f1), .int .i64 ((rd_T52 t464 x83_3).f2), .int .i64 ((rd_T52 t464 x83_3).f3), (.slice none 0 0)] 52 (0, 0))) ∧ Aside0 (Kd.C (Kd.int .u8) wc A472_4 ((rd_T52 t464 x83_3).f4).length ((rd_T52 t464 x83_3).f4)) ∧ Aside0 (Below w.heap.size w wc))
                   case first =>
                    have H := HC30.out
                    clear HC30
                    by_cases c33 : (((rd_T52 t464 x83_3).f4).length : Int) = (l0.length : Int)
                    · rw [if_pos c33] at H
                      have c33b0 : ((((rd_T52 t464 x83_3).f4).length : Int) == (l0.length : Int)) = true := beq_iff_eq.mpr c33
                      have c33b1 : ((((rd_T52 t464 x83_3).f4).length : Int) != (l0.length : Int)) = false := bne_eq_false_iff_eq.mpr c33
                      have c33b2 : (((rd_T52 t464 x83_3).f4).length == l0.length) = true := by first | simpa using c33 | (simp at c33 ⊢; omega)
                      clear c33
                      (first | rw [c33b0] | (simp only [i64_w, i32_w]; rw [c33b0]) | skip)
                      by_cases c34 : x83_3 < (t468.length : Int)
                      · rw [if_pos c34] at H
                        have c34b0 : decide (x83_3 < (t468.length : Int)) = true := decide_eq_true c34
                        clear c34
                        have H' := Aside0.mk H
                        clear H
                        have p474 : 0 ≤ (x83_3 : Int) := of_decide_eq_true (by first | (with_reducible assumption) | assumption)
                        have q474 : x83_3 < (t464.length : Int) := of_decide_eq_true (by first | (with_reducible assumption) | assumption)
                        obtain ⟨ad474, A474_4, c474_4, e474, hx474_0, hx474_1, hx474_2, hx474_3, hx474_4, hl474_4, hi474_4⟩ := at_T52 (Kd.S_reads' HO_13.out).2.2 x83_3 p474 q474
                        obtain rfl : ad472 = ad474 := (by injection e474)
                        have hn474_0 : ad472.block ≠ gb473 := (by first | exact Kd.own_blk (Kd.S_ne HO_13.out BK473.out (by decide)) | exact Kd.own_blk (Kd.S_away HO_13.out (fun _ hk => by first | exact hk | exact hk.1 | exact hk.2 | exact hk.1.1 | exact hk.1.2 | exact hk.2.1 | exact hk.2.2 | exact hk.1.1.2 | exact hk.1.2.1 | exact hk.1.2.2 | exact hk.2.1.2 | exact hk.2.2.1 | exact hk.2.2.2)))
                        have hn474_1 : ad472.block ≠ gb473 := (by first | exact Kd.own_blk (Kd.S_ne HO_13.out BK473.out (by decide)) | exact Kd.own_blk (Kd.S_away HO_13.out (fun _ hk => by first | exact hk | exact hk.1 | exact hk.2 | exact hk.1.1 | exact hk.1.2 | exact hk.2.1 | exact hk.2.2 | exact hk.1.1.2 | exact hk.1.2.1 | exact hk.1.2.2 | exact hk.2.1.2 | exact hk.2.2.1 | exact hk.2.2.2)))
                        have hn474_2 : ad472.block ≠ gb473 := (by first | exact Kd.own_blk (Kd.S_ne HO_13.out BK473.out (by decide)) | exact Kd.own_blk (Kd.S_away HO_13.out (fun _ hk => by first | exact hk | exact hk.1 | exact hk.2 | exact hk.1.1 | exact hk.1.2 | exact hk.2.1 | exact hk.2.2 | exact hk.1.1.2 | exact hk.1.2.1 | exact hk.1.2.2 | exact hk.2.1.2 | exact hk.2.2.1 | exact hk.2.2.2)))
                        have hn474_3 : ad472.block ≠ gb473 := (by first | exact Kd.own_blk (Kd.S_ne HO_13.out BK473.out (by decide)) | exact Kd.own_blk (Kd.S_away HO_13.out (fun _ hk => by first | exact hk | exact hk.1 | exact hk.2 | exact hk.1.1 | exact hk.1.2 | exact hk.2.1 | exact hk.2.2 | exact hk.1.1.2 | exact hk.1.2.1 | exact hk.1.2.2 | exact hk.2.1.2 | exact hk.2.2.1 | exact hk.2.2.2)))
                        have hn474_4 : ad472.block ≠ gb473 := (by first | exact Kd.own_blk (Kd.S_ne HO_13.out BK473.out (by decide)) | exact Kd.own_blk (Kd.S_away HO_13.out (fun _ hk => by first | exact hk | exact hk.1 | exact hk.2 | exact hk.1.1 | exact hk.1.2 | exact hk.2.1 | exact hk.2.2 | exact hk.1.1.2 | exact hk.1.2.1 | exact hk.1.2.2 | exact hk.2.1.2 | exact hk.2.2.1 | exact hk.2.2.2)))
                        have hn474_5 : ad472.block ≠ gb473 := (by first | exact Kd.own_blk (Kd.S_ne HO_13.out BK473.out (by decide)) | exact Kd.own_blk (Kd.S_away HO_13.out (fun _ hk => by first | exact hk | exact hk.1 | exact hk.2 | exact hk.1.1 | exact hk.1.2 | exact hk.2.1 | exact hk.2.2 | exact hk.1.1.2 | exact hk.1.2.1 | exact hk.1.2.2 | exact hk.2.1.2 | exact hk.2.2.1 | exact hk.2.2.2)))
                        have HR474_4 := Aside0.mk hi474_4
                        have HC474_4 := Aside0.mk hl474_4
                        clear hi474_4 hl474_4
                        replace hx474_0 := (cell_far (p := ⟨gb473, 0, none⟩) (by first | (rw [add_block]; exact hn474_0) | (show (Addr.add _ _).block ≠ _; rw [add_block]; exact hn474_0) | exact hn474_0) (.int .i64 ((rd_T52 t464 x83_3).f0))).trans hx474_0
                        replace hx474_1 := (cell_far (p := ⟨gb473, 0, none⟩) (by first | (rw [add_block]; exact hn474_0) | (show (Addr.add _ _).block ≠ _; rw [add_block]; exact hn474_0) | exact hn474_0) (.int .i64 ((rd_T52 t464 x83_3).f0))).trans hx474_1
                        replace hx474_2 := (cell_far (p := ⟨gb473, 0, none⟩) (by first | (rw [add_block]; exact hn474_0) | (show (Addr.add _ _).block ≠ _; rw [add_block]; exact hn474_0) | exact hn474_0) (.int .i64 ((rd_T52 t464 x83_3).f0))).trans hx474_2
                        replace hx474_3 := (cell_far (p := ⟨gb473, 0, none⟩) (by first | (rw [add_block]; exact hn474_0) | (show (Addr.add _ _).block ≠ _; rw [add_block]; exact hn474_0) | exact hn474_0) (.int .i64 ((rd_T52 t464 x83_3).f0))).trans hx474_3
                        replace hx474_4 := (cell_far (p := ⟨gb473, 0, none⟩) (by first | (rw [add_block]; exact hn474_0) | (show (Addr.add _ _).block ≠ _; rw [add_block]; exact hn474_0) | exact hn474_0) (.int .i64 ((rd_T52 t464 x83_3).f0))).trans hx474_4
                        replace hx474_0 := (cell_far (p := ⟨gb473, 1, none⟩) (by first | (rw [add_block]; exact hn474_1) | (show (Addr.add _ _).block ≠ _; rw [add_block]; exact hn474_1) | exact hn474_1) (.int .i64 ((rd_T52 t464 x83_3).f1))).trans hx474_0
                        replace hx474_1 := (cell_far (p := ⟨gb473, 1, none⟩) (by first | (rw [add_block]; exact hn474_1) | (show (Addr.add _ _).block ≠ _; rw [add_block]; exact hn474_1) | exact hn474_1) (.int .i64 ((rd_T52 t464 x83_3).f1))).trans hx474_1
                        replace hx474_2 := (cell_far (p := ⟨gb473, 1, none⟩) (by first | (rw [add_block]; exact hn474_1) | (show (Addr.add _ _).block ≠ _; rw [add_block]; exact hn474_1) | exact hn474_1) (.int .i64 ((rd_T52 t464 x83_3).f1))).trans hx474_2
                        replace hx474_3 := (cell_far (p := ⟨gb473, 1, none⟩) (by first | (rw [add_block]; exact hn474_1) | (show (Addr.add _ _).block ≠ _; rw [add_block]; exact hn474_1) | exact hn474_1) (.int .i64 ((rd_T52 t464 x83_3).f1))).trans hx474_3
                        replace hx474_4 := (cell_far (p := ⟨gb473, 1, none⟩) (by first | (rw [add_block]; exact hn474_1) | (show (Addr.add _ _).block ≠ _; rw [add_block]; exact hn474_1) | exact hn474_1) (.int .i64 ((rd_T52 t464 x83_3).f1))).trans hx474_4
                        replace hx474_0 := (cell_far (p := ⟨gb473, 2, none⟩) (by first | (rw [add_block]; exact hn474_2) | (show (Addr.add _ _).block ≠ _; rw [add_block]; exact hn474_2) | exact hn474_2) (.int .i64 ((rd_T52 t464 x83_3).f2))).trans hx474_0
                        replace hx474_1 := (cell_far (p := ⟨gb473, 2, none⟩) (by first | (rw [add_block]; exact hn474_2) | (show (Addr.add _ _).block ≠ _; rw [add_block]; exact hn474_2) | exact hn474_2) (.int .i64 ((rd_T52 t464 x83_3).f2))).trans hx474_1
                        replace hx474_2 := (cell_far (p := ⟨gb473, 2, none⟩) (by first | (rw [add_block]; exact hn474_2) | (show (Addr.add _ _).block ≠ _; rw [add_block]; exact hn474_2) | exact hn474_2) (.int .i64 ((rd_T52 t464 x83_3).f2))).trans hx474_2
                        replace hx474_3 := (cell_far (p := ⟨gb473, 2, none⟩) (by first | (rw [add_block]; exact hn474_2) | (show (Addr.add _ _).block ≠ _; rw [add_block]; exact hn474_2) | exact hn474_2) (.int .i64 ((rd_T52 t464 x83_3).f2))).trans hx474_3
                        replace hx474_4 := (cell_far (p := ⟨gb473, 2, none⟩) (by first | (rw [add_block]; exact hn474_2) | (show (Addr.add _ _).block ≠ _; rw [add_block]; exact hn474_2) | exact hn474_2) (.int .i64 ((rd_T52 t464 x83_3).f2))).trans hx474_4
                        replace hx474_0 := (cell_far (p := ⟨gb473, 3, none⟩) (by first | (rw [add_block]; exact hn474_3) | (show (Addr.add _ _).block ≠ _; rw [add_block]; exact hn474_3) | exact hn474_3) (.int .i64 ((rd_T52 t464 x83_3).f3))).trans hx474_0
                        replace hx474_1 := (cell_far (p := ⟨gb473, 3, none⟩) (by first | (rw [add_block]; exact hn474_3) | (show (Addr.add _ _).block ≠ _; rw [add_block]; exact hn474_3) | exact hn474_3) (.int .i64 ((rd_T52 t464 x83_3).f3))).trans hx474_1
                        replace hx474_2 := (cell_far (p := ⟨gb473, 3, none⟩) (by first | (rw [add_block]; exact hn474_3) | (show (Addr.add _ _).block ≠ _; rw [add_block]; exact hn474_3) | exact hn474_3) (.int .i64 ((rd_T52 t464 x83_3).f3))).trans hx474_2
                        replace hx474_3 := (cell_far (p := ⟨gb473, 3, none⟩) (by first | (rw [add_block]; exact hn474_3) | (show (Addr.add _ _).block ≠ _; rw [add_block]; exact hn474_3) | exact hn474_3) (.int .i64 ((rd_T52 t464 x83_3).f3))).trans hx474_3
                        replace hx474_4 := (cell_far (p := ⟨gb473, 3, none⟩) (by first | (rw [add_block]; exact hn474_3) | (show (Addr.add _ _).block ≠ _; rw [add_block]; exact hn474_3) | exact hn474_3) (.int .i64 ((rd_T52 t464 x83_3).f3))).trans hx474_4
                        replace hx474_0 := (cell_far (p := ⟨gb473, 4, none⟩) (by first | (rw [add_block]; exact hn474_4) | (show (Addr.add _ _).block ≠ _; rw [add_block]; exact hn474_4) | exact hn474_4) (.slice A472_4 ((rd_T52 t464 x83_3).f4).length c472_4)).trans hx474_0
                        replace hx474_1 := (cell_far (p := ⟨gb473, 4, none⟩) (by first | (rw [add_block]; exact hn474_4) | (show (Addr.add _ _).block ≠ _; rw [add_block]; exact hn474_4) | exact hn474_4) (.slice A472_4 ((rd_T52 t464 x83_3).f4).length c472_4)).trans hx474_1
                        replace hx474_2 := (cell_far (p := ⟨gb473, 4, none⟩) (by first | (rw [add_block]; exact hn474_4) | (show (Addr.add _ _).block ≠ _; rw [add_block]; exact hn474_4) | exact hn474_4) (.slice A472_4 ((rd_T52 t464 x83_3).f4).length c472_4)).trans hx474_2
                        replace hx474_3 := (cell_far (p := ⟨gb473, 4, none⟩) (by first | (rw [add_block]; exact hn474_4) | (show (Addr.add _ _).block ≠ _; rw [add_block]; exact hn474_4) | exact hn474_4) (.slice A472_4 ((rd_T52 t464 x83_3).f4).length c472_4)).trans hx474_3
                        replace hx474_4 := (cell_far (p := ⟨gb473, 4, none⟩) (by first | (rw [add_block]; exact hn474_4) | (show (Addr.add _ _).block ≠ _; rw [add_block]; exact hn474_4) | exact hn474_4) (.slice A472_4 ((rd_T52 t464 x83_3).f4).length c472_4)).trans hx474_4
                        replace hx474_0 := (cell_far (p := ⟨gb473, 4, none⟩) (by first | (rw [add_block]; exact hn474_5) | (show (Addr.add _ _).block ≠ _; rw [add_block]; exact hn474_5) | exact hn474_5) (.slice none 0 0)).trans hx474_0
                        replace hx474_1 := (cell_far (p := ⟨gb473, 4, none⟩) (by first | (rw [add_block]; exact hn474_5) | (show (Addr.add _ _).block ≠ _; rw [add_block]; exact hn474_5) | exact hn474_5) (.slice none 0 0)).trans hx474_1
                        replace hx474_2 := (cell_far (p := ⟨gb473, 4, none⟩) (by first | (rw [add_block]; exact hn474_5) | (show (Addr.add _ _).block ≠ _; rw [add_block]; exact hn474_5) | exact hn474_5) (.slice none 0 0)).trans hx474_2
                        replace hx474_3 := (cell_far (p := ⟨gb473, 4, none⟩) (by first | (rw [add_block]; exact hn474_5) | (show (Addr.add _ _).block ≠ _; rw [add_block]; exact hn474_5) | exact hn474_5) (.slice none 0 0)).trans hx474_3
                        replace hx474_4 := (cell_far (p := ⟨gb473, 4, none⟩) (by first | (rw [add_block]; exact hn474_5) | (show (Addr.add _ _).block ≠ _; rw [add_block]; exact hn474_5) | exact hn474_5) (.slice none 0 0)).trans hx474_4
                        clear hn474_0
                        clear hn474_1
                        clear hn474_2
                        clear hn474_3
                        clear hn474_4
                        clear hn474_5
                        replace p474 := eq_true p474
                        replace q474 := eq_true q474
                        obtain ⟨Ao35, co35, eo35⟩ := Kd.S_slice HO_15.out
                        subst eo35
                        have p475 : 0 ≤ (x83_3 : Int) := of_decide_eq_true (by first | (with_reducible assumption) | assumption)
                        have q475 : x83_3 < (t468.length : Int) := of_decide_eq_true (by first | (with_reducible assumption) | assumption)
                        obtain ⟨ad475, A475_4, c475_4, e475, hx475_0, hx475_1, hx475_2, hx475_3, hx475_4, hl475_4, hi475_4⟩ := at_T52 (Kd.S_reads' HO_15.out).2.2 x83_3 p475 q475
                        cases e475
                        have hn475_0 : ad475.block ≠ gb473 := (by first | exact Kd.own_blk (Kd.S_ne HO_15.out BK473.out (by decide)) | exact Kd.own_blk (Kd.S_away HO_15.out (fun _ hk => by first | exact hk | exact hk.1 | exact hk.2 | exact hk.1.1 | exact hk.1.2 | exact hk.2.1 | exact hk.2.2 | exact hk.1.1.2 | exact hk.1.2.1 | exact hk.1.2.2 | exact hk.2.1.2 | exact hk.2.2.1 | exact hk.2.2.2)))
                        have hn475_1 : ad475.block ≠ gb473 := (by first | exact Kd.own_blk (Kd.S_ne HO_15.out BK473.out (by decide)) | exact Kd.own_blk (Kd.S_away HO_15.out (fun _ hk => by first | exact hk | exact hk.1 | exact hk.2 | exact hk.1.1 | exact hk.1.2 | exact hk.2.1 | exact hk.2.2 | exact hk.1.1.2 | exact hk.1.2.1 | exact hk.1.2.2 | exact hk.2.1.2 | exact hk.2.2.1 | exact hk.2.2.2)))
                        have hn475_2 : ad475.block ≠ gb473 := (by first | exact Kd.own_blk (Kd.S_ne HO_15.out BK473.out (by decide)) | exact Kd.own_blk (Kd.S_away HO_15.out (fun _ hk => by first | exact hk | exact hk.1 | exact hk.2 | exact hk.1.1 | exact hk.1.2 | exact hk.2.1 | exact hk.2.2 | exact hk.1.1.2 | exact hk.1.2.1 | exact hk.1.2.2 | exact hk.2.1.2 | exact hk.2.2.1 | exact hk.2.2.2)))
                        have hn475_3 : ad475.block ≠ gb473 := (by first | exact Kd.own_blk (Kd.S_ne HO_15.out BK473.out (by decide)) | exact Kd.own_blk (Kd.S_away HO_15.out (fun _ hk => by first | exact hk | exact hk.1 | exact hk.2 | exact hk.1.1 | exact hk.1.2 | exact hk.2.1 | exact hk.2.2 | exact hk.1.1.2 | exact hk.1.2.1 | exact hk.1.2.2 | exact hk.2.1.2 | exact hk.2.2.1 | exact hk.2.2.2)))
                        have hn475_4 : ad475.block ≠ gb473 := (by first | exact Kd.own_blk (Kd.S_ne HO_15.out BK473.out (by decide)) | exact Kd.own_blk (Kd.S_away HO_15.out (fun _ hk => by first | exact hk | exact hk.1 | exact hk.2 | exact hk.1.1 | exact hk.1.2 | exact hk.2.1 | exact hk.2.2 | exact hk.1.1.2 | exact hk.1.2.1 | exact hk.1.2.2 | exact hk.2.1.2 | exact hk.2.2.1 | exact hk.2.2.2)))
                        have hn475_5 : ad475.block ≠ gb473 := (by first | exact Kd.own_blk (Kd.S_ne HO_15.out BK473.out (by decide)) | exact Kd.own_blk (Kd.S_away HO_15.out (fun _ hk => by first | exact hk | exact hk.1 | exact hk.2 | exact hk.1.1 | exact hk.1.2 | exact hk.2.1 | exact hk.2.2 | exact hk.1.1.2 | exact hk.1.2.1 | exact hk.1.2.2 | exact hk.2.1.2 | exact hk.2.2.1 | exact hk.2.2.2)))
                        have HR475_4 := Aside0.mk hi475_4
                        have HC475_4 := Aside0.mk hl475_4
                        clear hi475_4 hl475_4
                        replace hx475_0 := (cell_far (p := ⟨gb473, 0, none⟩) (by first | (rw [add_block]; exact hn475_0) | (show (Addr.add _ _).block ≠ _; rw [add_block]; exact hn475_0) | exact hn475_0) (.int .i64 ((rd_T52 t464 x83_3).f0))).trans hx475_0
                        replace hx475_1 := (cell_far (p := ⟨gb473, 0, none⟩) (by first | (rw [add_block]; exact hn475_0) | (show (Addr.add _ _).block ≠ _; rw [add_block]; exact hn475_0) | exact hn475_0) (.int .i64 ((rd_T52 t464 x83_3).f0))).trans hx475_1
                        replace hx475_2 := (cell_far (p := ⟨gb473, 0, none⟩) (by first | (rw [add_block]; exact hn475_0) | (show (Addr.add _ _).block ≠ _; rw [add_block]; exact hn475_0) | exact hn475_0) (.int .i64 ((rd_T52 t464 x83_3).f0))).trans hx475_2
                        replace hx475_3 := (cell_far (p := ⟨gb473, 0, none⟩) (by first | (rw [add_block]; exact hn475_0) | (show (Addr.add _ _).block ≠ _; rw [add_block]; exact hn475_0) | exact hn475_0) (.int .i64 ((rd_T52 t464 x83_3).f0))).trans hx475_3
                        replace hx475_4 := (cell_far (p := ⟨gb473, 0, none⟩) (by first | (rw [add_block]; exact hn475_0) | (show (Addr.add _ _).block ≠ _; rw [add_block]; exact hn475_0) | exact hn475_0) (.int .i64 ((rd_T52 t464 x83_3).f0))).trans hx475_4
                        replace hx475_0 := (cell_far (p := ⟨gb473, 1, none⟩) (by first | (rw [add_block]; exact hn475_1) | (show (Addr.add _ _).block ≠ _; rw [add_block]; exact hn475_1) | exact hn475_1) (.int .i64 ((rd_T52 t464 x83_3).f1))).trans hx475_0
                        replace hx475_1 := (cell_far (p := ⟨gb473, 1, none⟩) (by first | (rw [add_block]; exact hn475_1) | (show (Addr.add _ _).block ≠ _; rw [add_block]; exact hn475_1) | exact hn475_1) (.int .i64 ((rd_T52 t464 x83_3).f1))).trans hx475_1
                        replace hx475_2 := (cell_far (p := ⟨gb473, 1, none⟩) (by first | (rw [add_block]; exact hn475_1) | (show (Addr.add _ _).block ≠ _; rw [add_block]; exact hn475_1) | exact hn475_1) (.int .i64 ((rd_T52 t464 x83_3).f1))).trans hx475_2
                        replace hx475_3 := (cell_far (p := ⟨gb473, 1, none⟩) (by first | (rw [add_block]; exact hn475_1) | (show (Addr.add _ _).block ≠ _; rw [add_block]; exact hn475_1) | exact hn475_1) (.int .i64 ((rd_T52 t464 x83_3).f1))).trans hx475_3
                        replace hx475_4 := (cell_far (p := ⟨gb473, 1, none⟩) (by first | (rw [add_block]; exact hn475_1) | (show (Addr.add _ _).block ≠ _; rw [add_block]; exact hn475_1) | exact hn475_1) (.int .i64 ((rd_T52 t464 x83_3).f1))).trans hx475_4
                        replace hx475_0 := (cell_far (p := ⟨gb473, 2, none⟩) (by first | (rw [add_block]; exact hn475_2) | (show (Addr.add _ _).block ≠ _; rw [add_block]; exact hn475_2) | exact hn475_2) (.int .i64 ((rd_T52 t464 x83_3).f2))).trans hx475_0
                        replace hx475_1 := (cell_far (p := ⟨gb473, 2, none⟩) (by first | (rw [add_block]; exact hn475_2) | (show (Addr.add _ _).block ≠ _; rw [add_block]; exact hn475_2) | exact hn475_2) (.int .i64 ((rd_T52 t464 x83_3).f2))).trans hx475_1
                        replace hx475_2 := (cell_far (p := ⟨gb473, 2, none⟩) (by first | (rw [add_block]; exact hn475_2) | (show (Addr.add _ _).block ≠ _; rw [add_block]; exact hn475_2) | exact hn475_2) (.int .i64 ((rd_T52 t464 x83_3).f2))).trans hx475_2
                        replace hx475_3 := (cell_far (p := ⟨gb473, 2, none⟩) (by first | (rw [add_block]; exact hn475_2) | (show (Addr.add _ _).block ≠ _; rw [add_block]; exact hn475_2) | exact hn475_2) (.int .i64 ((rd_T52 t464 x83_3).f2))).trans hx475_3
                        replace hx475_4 := (cell_far (p := ⟨gb473, 2, none⟩) (by first | (rw [add_block]; exact hn475_2) | (show (Addr.add _ _).block ≠ _; rw [add_block]; exact hn475_2) | exact hn475_2) (.int .i64 ((rd_T52 t464 x83_3).f2))).trans hx475_4
                        replace hx475_0 := (cell_far (p := ⟨gb473, 3, none⟩) (by first | (rw [add_block]; exact hn475_3) | (show (Addr.add _ _).block ≠ _; rw [add_block]; exact hn475_3) | exact hn475_3) (.int .i64 ((rd_T52 t464 x83_3).f3))).trans hx475_0
                        replace hx475_1 := (cell_far (p := ⟨gb473, 3, none⟩) (by first | (rw [add_block]; exact hn475_3) | (show (Addr.add _ _).block ≠ _; rw [add_block]; exact hn475_3) | exact hn475_3) (.int .i64 ((rd_T52 t464 x83_3).f3))).trans hx475_1
                        replace hx475_2 := (cell_far (p := ⟨gb473, 3, none⟩) (by first | (rw [add_block]; exact hn475_3) | (show (Addr.add _ _).block ≠ _; rw [add_block]; exact hn475_3) | exact hn475_3) (.int .i64 ((rd_T52 t464 x83_3).f3))).trans hx475_2
                        replace hx475_3 := (cell_far (p := ⟨gb473, 3, none⟩) (by first | (rw [add_block]; exact hn475_3) | (show (Addr.add _ _).block ≠ _; rw [add_block]; exact hn475_3) | exact hn475_3) (.int .i64 ((rd_T52 t464 x83_3).f3))).trans hx475_3
                        replace hx475_4 := (cell_far (p := ⟨gb473, 3, none⟩) (by first | (rw [add_block]; exact hn475_3) | (show (Addr.add _ _).block ≠ _; rw [add_block]; exact hn475_3) | exact hn475_3) (.int .i64 ((rd_T52 t464 x83_3).f3))).trans hx475_4
                        replace hx475_0 := (cell_far (p := ⟨gb473, 4, none⟩) (by first | (rw [add_block]; exact hn475_4) | (show (Addr.add _ _).block ≠ _; rw [add_block]; exact hn475_4) | exact hn475_4) (.slice A472_4 ((rd_T52 t464 x83_3).f4).length c472_4)).trans hx475_0
                        replace hx475_1 := (cell_far (p := ⟨gb473, 4, none⟩) (by first | (rw [add_block]; exact hn475_4) | (show (Addr.add _ _).block ≠ _; rw [add_block]; exact hn475_4) | exact hn475_4) (.slice A472_4 ((rd_T52 t464 x83_3).f4).length c472_4)).trans hx475_1
                        replace hx475_2 := (cell_far (p := ⟨gb473, 4, none⟩) (by first | (rw [add_block]; exact hn475_4) | (show (Addr.add _ _).block ≠ _; rw [add_block]; exact hn475_4) | exact hn475_4) (.slice A472_4 ((rd_T52 t464 x83_3).f4).length c472_4)).trans hx475_2
                        replace hx475_3 := (cell_far (p := ⟨gb473, 4, none⟩) (by first | (rw [add_block]; exact hn475_4) | (show (Addr.add _ _).block ≠ _; rw [add_block]; exact hn475_4) | exact hn475_4) (.slice A472_4 ((rd_T52 t464 x83_3).f4).length c472_4)).trans hx475_3
                        replace hx475_4 := (cell_far (p := ⟨gb473, 4, none⟩) (by first | (rw [add_block]; exact hn475_4) | (show (Addr.add _ _).block ≠ _; rw [add_block]; exact hn475_4) | exact hn475_4) (.slice A472_4 ((rd_T52 t464 x83_3).f4).length c472_4)).trans hx475_4
                        replace hx475_0 := (cell_far (p := ⟨gb473, 4, none⟩) (by first | (rw [add_block]; exact hn475_5) | (show (Addr.add _ _).block ≠ _; rw [add_block]; exact hn475_5) | exact hn475_5) (.slice none 0 0)).trans hx475_0
                        replace hx475_1 := (cell_far (p := ⟨gb473, 4, none⟩) (by first | (rw [add_block]; exact hn475_5) | (show (Addr.add _ _).block ≠ _; rw [add_block]; exact hn475_5) | exact hn475_5) (.slice none 0 0)).trans hx475_1
                        replace hx475_2 := (cell_far (p := ⟨gb473, 4, none⟩) (by first | (rw [add_block]; exact hn475_5) | (show (Addr.add _ _).block ≠ _; rw [add_block]; exact hn475_5) | exact hn475_5) (.slice none 0 0)).trans hx475_2
                        replace hx475_3 := (cell_far (p := ⟨gb473, 4, none⟩) (by first | (rw [add_block]; exact hn475_5) | (show (Addr.add _ _).block ≠ _; rw [add_block]; exact hn475_5) | exact hn475_5) (.slice none 0 0)).trans hx475_3
                        replace hx475_4 := (cell_far (p := ⟨gb473, 4, none⟩) (by first | (rw [add_block]; exact hn475_5) | (show (Addr.add _ _).block ≠ _; rw [add_block]; exact hn475_5) | exact hn475_5) (.slice none 0 0)).trans hx475_4
                        clear hn475_0
                        clear hn475_1
                        clear hn475_2
                        clear hn475_3
                        clear hn475_4
                        clear hn475_5
                        replace p475 := eq_true p475
                        replace q475 := eq_true q475
                        go_wp2
                        go_meet
                        case rel => exact ⟨_, (((((rd_T52 t468 x83_3).f4).length : Int) != (l0.length : Int))), (by first | rfl | (simp; done) | (simp [*]; done)), H', ⟨by have := HJ8.out; have := HJ16.out; have := HK3.out; first | omega | exact Nat.le_refl _⟩, ⟨by (with_reducible repeat (first | apply Kd.S_alloc | apply Kd.S_drewN | apply Kd.S_drew)); exact Kd.S_mono (Kd.S_far (p := ⟨gb473, 4, none⟩) (Kd.S_far (p := ⟨gb473, 4, none⟩) (Kd.S_far (p := ⟨gb473, 3, none⟩) (Kd.S_far (p := ⟨gb473, 2, none⟩) (Kd.S_far (p := ⟨gb473, 1, none⟩) (Kd.S_far (p := ⟨gb473, 0, none⟩) (Kd.S_mono HO_13.out (fun k_ hk => (⟨hk, hk.2⟩ : _ ∧ k_ ≠ gb473))) (fun _ hk => hk.2) (.int .i64 ((rd_T52 t464 x83_3).f0))) (fun _ hk => hk.2) (.int .i64 ((rd_T52 t464 x83_3).f1))) (fun _ hk => hk.2) (.int .i64 ((rd_T52 t464 x83_3).f2))) (fun _ hk => hk.2) (.int .i64 ((rd_T52 t464 x83_3).f3))) (fun _ hk => hk.2) (.slice A472_4 ((rd_T52 t464 x83_3).f4).length c472_4)) (fun _ hk => hk.2) (.slice none 0 0)) (fun _ hk => ⟨hk.1.1.1, ⟨hk.1.1.2, hk.1.2⟩⟩)⟩, ⟨by (with_reducible repeat (first | apply Kd.S_alloc | apply Kd.S_drewN | apply Kd.S_drew)); exact Kd.S_mono (Kd.S_far (p := ⟨gb473, 4, none⟩) (Kd.S_far (p := ⟨gb473, 4, none⟩) (Kd.S_far (p := ⟨gb473, 3, none⟩) (Kd.S_far (p := ⟨gb473, 2, none⟩) (Kd.S_far (p := ⟨gb473, 1, none⟩) (Kd.S_far (p := ⟨gb473, 0, none⟩) (Kd.S_mono HO_15.out (fun k_ hk => (⟨hk, hk.2⟩ : _ ∧ k_ ≠ gb473))) (fun _ hk => hk.2) (.int .i64 ((rd_T52 t464 x83_3).f0))) (fun _ hk => hk.2) (.int .i64 ((rd_T52 t464 x83_3).f1))) (fun _ hk => hk.2) (.int .i64 ((rd_T52 t464 x83_3).f2))) (fun _ hk => hk.2) (.int .i64 ((rd_T52 t464 x83_3).f3))) (fun _ hk => hk.2) (.slice A472_4 ((rd_T52 t464 x83_3).f4).length c472_4)) (fun _ hk => hk.2) (.slice none 0 0)) (fun _ hk => ⟨hk.1.1.1, ⟨hk.1.1.2, hk.1.2⟩⟩)⟩, ⟨by (with_reducible repeat (first | apply Kd.S_alloc | apply Kd.S_drewN | apply Kd.S_drew)); exact Kd.S_mono (Kd.S_far (p := ⟨gb473, 4, none⟩) (Kd.S_far (p := ⟨gb473, 4, none⟩) (Kd.S_far (p := ⟨gb473, 3, none⟩) (Kd.S_far (p := ⟨gb473, 2, none⟩) (Kd.S_far (p := ⟨gb473, 1, none⟩) (Kd.S_far (p := ⟨gb473, 0, none⟩) (Kd.S_mono HO_17.out (fun k_ hk => (⟨hk, hk.2⟩ : _ ∧ k_ ≠ gb473))) (fun _ hk => hk.2) (.int .i64 ((rd_T52 t464 x83_3).f0))) (fun _ hk => hk.2) (.int .i64 ((rd_T52 t464 x83_3).f1))) (fun _ hk => hk.2) (.int .i64 ((rd_T52 t464 x83_3).f2))) (fun _ hk => hk.2) (.int .i64 ((rd_T52 t464 x83_3).f3))) (fun _ hk => hk.2) (.slice A472_4 ((rd_T52 t464 x83_3).f4).length c472_4)) (fun _ hk => hk.2) (.slice none 0 0)) (fun _ hk => ⟨hk.1.1.1, ⟨hk.1.1.2, hk.1.2⟩⟩)⟩, ⟨by (with_reducible repeat (first | refine blk_drewN ?_ _ | refine blk_drew ?_ | refine blk_alloc ?_ _)); refine blk_put (cs := #[.int .i64 ((rd_T52 t464 x83_3).f0), .int .i64 ((rd_T52 t464 x83_3).f1), .int .i64 ((rd_T52 t464 x83_3).f2), .int .i64 ((rd_T52 t464 x83_3).f3), .slice A472_4 ((rd_T52 t464 x83_3).f4).length c472_4]) ?_ 4 _ rfl; (with_reducible repeat (first | refine blk_drewN ?_ _ | refine blk_drew ?_ | refine blk_alloc ?_ _)); refine blk_put (cs := #[.int .i64 ((rd_T52 t464 x83_3).f0), .int .i64 ((rd_T52 t464 x83_3).f1), .int .i64 ((rd_T52 t464 x83_3).f2), .int .i64 ((rd_T52 t464 x83_3).f3), .slice none 0 0]) ?_ 4 _ rfl; (with_reducible repeat (first | refine blk_drewN ?_ _ | refine blk_drew ?_ | refine blk_alloc ?_ _)); refine blk_put (cs := #[.int .i64 ((rd_T52 t464 x83_3).f0), .int .i64 ((rd_T52 t464 x83_3).f1), .int .i64 ((rd_T52 t464 x83_3).f2), .int .i64 0, .slice none 0 0]) ?_ 3 _ rfl; (with_reducible repeat (first | refine blk_drewN ?_ _ | refine blk_drew ?_ | refine blk_alloc ?_ _)); refine blk_put (cs := #[.int .i64 ((rd_T52 t464 x83_3).f0), .int .i64 ((rd_T52 t464 x83_3).f1), .int .i64 0, .int .i64 0, .slice none 0 0]) ?_ 2 _ rfl; (with_reducible repeat (first | refine blk_drewN ?_ _ | refine blk_drew ?_ | refine blk_alloc ?_ _)); refine blk_put (cs := #[.int .i64 ((rd_T52 t464 x83_3).f0), .int .i64 0, .int .i64 0, .int .i64 0, .slice none 0 0]) ?_ 1 _ rfl; (with_reducible repeat (first | refine blk_drewN ?_ _ | refine blk_drew ?_ | refine blk_alloc ?_ _)); refine blk_put (cs := #[.int .i64 0, .int .i64 0, .int .i64 0, .int .i64 0, .slice none 0 0]) ?_ 0 _ rfl; (with_reducible repeat (first | refine blk_drewN ?_ _ | refine blk_drew ?_ | refine blk_alloc ?_ _)); exact BK473.out⟩, ⟨(Kd.R_reads' (by (with_reducible repeat (first | apply Kd.R_alloc | apply Kd.R_drewN | apply Kd.R_drew)); exact (Kd.R_mono (Kd.R_far (p := ⟨gb473, 4, none⟩) (Kd.R_far (p := ⟨gb473, 4, none⟩) (Kd.R_far (p := ⟨gb473, 3, none⟩) (Kd.R_far (p := ⟨gb473, 2, none⟩) (Kd.R_far (p := ⟨gb473, 1, none⟩) (Kd.R_far (p := ⟨gb473, 0, none⟩) (Kd.R_types HL472_4.out BK473.out (by decide)) (fun _ hk => hk.2) (.int .i64 ((rd_T52 t464 x83_3).f0))) (fun _ hk => hk.2) (.int .i64 ((rd_T52 t464 x83_3).f1))) (fun _ hk => hk.2) (.int .i64 ((rd_T52 t464 x83_3).f2))) (fun _ hk => hk.2) (.int .i64 ((rd_T52 t464 x83_3).f3))) (fun _ hk => hk.2) (.slice A472_4 ((rd_T52 t464 x83_3).f4).length c472_4)) (fun _ hk => hk.2) (.slice none 0 0)) (fun _ h_ => h_.1)))).2.2⟩, ⟨by repeat (first | (with_reducible first | exact HB.out | apply below_alloc | apply pw_below_drewN | apply below_drew1 | refine below_set ?_ GE473.out) | exact HB.out)⟩⟩
                      · rw [if_neg c34] at H
                        exact absurd H (by simp)
                    · rw [if_neg c33] at H
                      have c33b0 : ((((rd_T52 t464 x83_3).f4).length : Int) == (l0.length : Int)) = false := beq_eq_false_iff_ne.mpr c33
                      have c33b1 : ((((rd_T52 t464 x83_3).f4).length : Int) != (l0.length : Int)) = true := bne_iff_ne.mpr c33
                      have c33b2 : (((rd_T52 t464 x83_3).f4).length == l0.length) = false := by first | simpa using c33 | (simp at c33 ⊢; omega)
                      (first | rw [c33b0] | (simp only [i64_w, i32_w]; rw [c33b0]) | skip)
                      have H' := Aside0.mk H
                      clear H
                      have p474 : 0 ≤ (x83_3 : Int) := of_decide_eq_true (by first | (with_reducible assumption) | assumption)
                      have q474 : x83_3 < (t464.length : Int) := of_decide_eq_true (by first | (with_reducible assumption) | assumption)
                      obtain ⟨ad474, A474_4, c474_4, e474, hx474_0, hx474_1, hx474_2, hx474_3, hx474_4, hl474_4, hi474_4⟩ := at_T52 (Kd.S_reads' HO_13.out).2.2 x83_3 p474 q474
                      obtain rfl : ad472 = ad474 := (by injection e474)
                      have hn474_0 : ad472.block ≠ gb473 := (by first | exact Kd.own_blk (Kd.S_ne HO_13.out BK473.out (by decide)) | exact Kd.own_blk (Kd.S_away HO_13.out (fun _ hk => by first | exact hk | exact hk.1 | exact hk.2 | exact hk.1.1 | exact hk.1.2 | exact hk.2.1 | exact hk.2.2 | exact hk.1.1.2 | exact hk.1.2.1 | exact hk.1.2.2 | exact hk.2.1.2 | exact hk.2.2.1 | exact hk.2.2.2)))
                      have hn474_1 : ad472.block ≠ gb473 := (by first | exact Kd.own_blk (Kd.S_ne HO_13.out BK473.out (by decide)) | exact Kd.own_blk (Kd.S_away HO_13.out (fun _ hk => by first | exact hk | exact hk.1 | exact hk.2 | exact hk.1.1 | exact hk.1.2 | exact hk.2.1 | exact hk.2.2 | exact hk.1.1.2 | exact hk.1.2.1 | exact hk.1.2.2 | exact hk.2.1.2 | exact hk.2.2.1 | exact hk.2.2.2)))
                      have hn474_2 : ad472.block ≠ gb473 := (by first | exact Kd.own_blk (Kd.S_ne HO_13.out BK473.out (by decide)) | exact Kd.own_blk (Kd.S_away HO_13.out (fun _ hk => by first | exact hk | exact hk.1 | exact hk.2 | exact hk.1.1 | exact hk.1.2 | exact hk.2.1 | exact hk.2.2 | exact hk.1.1.2 | exact hk.1.2.1 | exact hk.1.2.2 | exact hk.2.1.2 | exact hk.2.2.1 | exact hk.2.2.2)))
                      have hn474_3 : ad472.block ≠ gb473 := (by first | exact Kd.own_blk (Kd.S_ne HO_13.out BK473.out (by decide)) | exact Kd.own_blk (Kd.S_away HO_13.out (fun _ hk => by first | exact hk | exact hk.1 | exact hk.2 | exact hk.1.1 | exact hk.1.2 | exact hk.2.1 | exact hk.2.2 | exact hk.1.1.2 | exact hk.1.2.1 | exact hk.1.2.2 | exact hk.2.1.2 | exact hk.2.2.1 | exact hk.2.2.2)))
                      have hn474_4 : ad472.block ≠ gb473 := (by first | exact Kd.own_blk (Kd.S_ne HO_13.out BK473.out (by decide)) | exact Kd.own_blk (Kd.S_away HO_13.out (fun _ hk => by first | exact hk | exact hk.1 | exact hk.2 | exact hk.1.1 | exact hk.1.2 | exact hk.2.1 | exact hk.2.2 | exact hk.1.1.2 | exact hk.1.2.1 | exact hk.1.2.2 | exact hk.2.1.2 | exact hk.2.2.1 | exact hk.2.2.2)))
                      have hn474_5 : ad472.block ≠ gb473 := (by first | exact Kd.own_blk (Kd.S_ne HO_13.out BK473.out (by decide)) | exact Kd.own_blk (Kd.S_away HO_13.out (fun _ hk => by first | exact hk | exact hk.1 | exact hk.2 | exact hk.1.1 | exact hk.1.2 | exact hk.2.1 | exact hk.2.2 | exact hk.1.1.2 | exact hk.1.2.1 | exact hk.1.2.2 | exact hk.2.1.2 | exact hk.2.2.1 | exact hk.2.2.2)))
                      have HR474_4 := Aside0.mk hi474_4
                      have HC474_4 := Aside0.mk hl474_4
                      clear hi474_4 hl474_4
                      replace hx474_0 := (cell_far (p := ⟨gb473, 0, none⟩) (by first | (rw [add_block]; exact hn474_0) | (show (Addr.add _ _).block ≠ _; rw [add_block]; exact hn474_0) | exact hn474_0) (.int .i64 ((rd_T52 t464 x83_3).f0))).trans hx474_0
                      replace hx474_1 := (cell_far (p := ⟨gb473, 0, none⟩) (by first | (rw [add_block]; exact hn474_0) | (show (Addr.add _ _).block ≠ _; rw [add_block]; exact hn474_0) | exact hn474_0) (.int .i64 ((rd_T52 t464 x83_3).f0))).trans hx474_1
                      replace hx474_2 := (cell_far (p := ⟨gb473, 0, none⟩) (by first | (rw [add_block]; exact hn474_0) | (show (Addr.add _ _).block ≠ _; rw [add_block]; exact hn474_0) | exact hn474_0) (.int .i64 ((rd_T52 t464 x83_3).f0))).trans hx474_2
                      replace hx474_3 := (cell_far (p := ⟨gb473, 0, none⟩) (by first | (rw [add_block]; exact hn474_0) | (show (Addr.add _ _).block ≠ _; rw [add_block]; exact hn474_0) | exact hn474_0) (.int .i64 ((rd_T52 t464 x83_3).f0))).trans hx474_3
                      replace hx474_4 := (cell_far (p := ⟨gb473, 0, none⟩) (by first | (rw [add_block]; exact hn474_0) | (show (Addr.add _ _).block ≠ _; rw [add_block]; exact hn474_0) | exact hn474_0) (.int .i64 ((rd_T52 t464 x83_3).f0))).trans hx474_4
                      replace hx474_0 := (cell_far (p := ⟨gb473, 1, none⟩) (by first | (rw [add_block]; exact hn474_1) | (show (Addr.add _ _).block ≠ _; rw [add_block]; exact hn474_1) | exact hn474_1) (.int .i64 ((rd_T52 t464 x83_3).f1))).trans hx474_0
                      replace hx474_1 := (cell_far (p := ⟨gb473, 1, none⟩) (by first | (rw [add_block]; exact hn474_1) | (show (Addr.add _ _).block ≠ _; rw [add_block]; exact hn474_1) | exact hn474_1) (.int .i64 ((rd_T52 t464 x83_3).f1))).trans hx474_1
                      replace hx474_2 := (cell_far (p := ⟨gb473, 1, none⟩) (by first | (rw [add_block]; exact hn474_1) | (show (Addr.add _ _).block ≠ _; rw [add_block]; exact hn474_1) | exact hn474_1) (.int .i64 ((rd_T52 t464 x83_3).f1))).trans hx474_2
                      replace hx474_3 := (cell_far (p := ⟨gb473, 1, none⟩) (by first | (rw [add_block]; exact hn474_1) | (show (Addr.add _ _).block ≠ _; rw [add_block]; exact hn474_1) | exact hn474_1) (.int .i64 ((rd_T52 t464 x83_3).f1))).trans hx474_3
                      replace hx474_4 := (cell_far (p := ⟨gb473, 1, none⟩) (by first | (rw [add_block]; exact hn474_1) | (show (Addr.add _ _).block ≠ _; rw [add_block]; exact hn474_1) | exact hn474_1) (.int .i64 ((rd_T52 t464 x83_3).f1))).trans hx474_4
                      replace hx474_0 := (cell_far (p := ⟨gb473, 2, none⟩) (by first | (rw [add_block]; exact hn474_2) | (show (Addr.add _ _).block ≠ _; rw [add_block]; exact hn474_2) | exact hn474_2) (.int .i64 ((rd_T52 t464 x83_3).f2))).trans hx474_0
                      replace hx474_1 := (cell_far (p := ⟨gb473, 2, none⟩) (by first | (rw [add_block]; exact hn474_2) | (show (Addr.add _ _).block ≠ _; rw [add_block]; exact hn474_2) | exact hn474_2) (.int .i64 ((rd_T52 t464 x83_3).f2))).trans hx474_1
                      replace hx474_2 := (cell_far (p := ⟨gb473, 2, none⟩) (by first | (rw [add_block]; exact hn474_2) | (show (Addr.add _ _).block ≠ _; rw [add_block]; exact hn474_2) | exact hn474_2) (.int .i64 ((rd_T52 t464 x83_3).f2))).trans hx474_2
                      replace hx474_3 := (cell_far (p := ⟨gb473, 2, none⟩) (by first | (rw [add_block]; exact hn474_2) | (show (Addr.add _ _).block ≠ _; rw [add_block]; exact hn474_2) | exact hn474_2) (.int .i64 ((rd_T52 t464 x83_3).f2))).trans hx474_3
                      replace hx474_4 := (cell_far (p := ⟨gb473, 2, none⟩) (by first | (rw [add_block]; exact hn474_2) | (show (Addr.add _ _).block ≠ _; rw [add_block]; exact hn474_2) | exact hn474_2) (.int .i64 ((rd_T52 t464 x83_3).f2))).trans hx474_4
                      replace hx474_0 := (cell_far (p := ⟨gb473, 3, none⟩) (by first | (rw [add_block]; exact hn474_3) | (show (Addr.add _ _).block ≠ _; rw [add_block]; exact hn474_3) | exact hn474_3) (.int .i64 ((rd_T52 t464 x83_3).f3))).trans hx474_0
                      replace hx474_1 := (cell_far (p := ⟨gb473, 3, none⟩) (by first | (rw [add_block]; exact hn474_3) | (show (Addr.add _ _).block ≠ _; rw [add_block]; exact hn474_3) | exact hn474_3) (.int .i64 ((rd_T52 t464 x83_3).f3))).trans hx474_1
                      replace hx474_2 := (cell_far (p := ⟨gb473, 3, none⟩) (by first | (rw [add_block]; exact hn474_3) | (show (Addr.add _ _).block ≠ _; rw [add_block]; exact hn474_3) | exact hn474_3) (.int .i64 ((rd_T52 t464 x83_3).f3))).trans hx474_2
                      replace hx474_3 := (cell_far (p := ⟨gb473, 3, none⟩) (by first | (rw [add_block]; exact hn474_3) | (show (Addr.add _ _).block ≠ _; rw [add_block]; exact hn474_3) | exact hn474_3) (.int .i64 ((rd_T52 t464 x83_3).f3))).trans hx474_3
                      replace hx474_4 := (cell_far (p := ⟨gb473, 3, none⟩) (by first | (rw [add_block]; exact hn474_3) | (show (Addr.add _ _).block ≠ _; rw [add_block]; exact hn474_3) | exact hn474_3) (.int .i64 ((rd_T52 t464 x83_3).f3))).trans hx474_4
                      replace hx474_0 := (cell_far (p := ⟨gb473, 4, none⟩) (by first | (rw [add_block]; exact hn474_4) | (show (Addr.add _ _).block ≠ _; rw [add_block]; exact hn474_4) | exact hn474_4) (.slice A472_4 ((rd_T52 t464 x83_3).f4).length c472_4)).trans hx474_0
                      replace hx474_1 := (cell_far (p := ⟨gb473, 4, none⟩) (by first | (rw [add_block]; exact hn474_4) | (show (Addr.add _ _).block ≠ _; rw [add_block]; exact hn474_4) | exact hn474_4) (.slice A472_4 ((rd_T52 t464 x83_3).f4).length c472_4)).trans hx474_1
                      replace hx474_2 := (cell_far (p := ⟨gb473, 4, none⟩) (by first | (rw [add_block]; exact hn474_4) | (show (Addr.add _ _).block ≠ _; rw [add_block]; exact hn474_4) | exact hn474_4) (.slice A472_4 ((rd_T52 t464 x83_3).f4).length c472_4)).trans hx474_2
                      replace hx474_3 := (cell_far (p := ⟨gb473, 4, none⟩) (by first | (rw [add_block]; exact hn474_4) | (show (Addr.add _ _).block ≠ _; rw [add_block]; exact hn474_4) | exact hn474_4) (.slice A472_4 ((rd_T52 t464 x83_3).f4).length c472_4)).trans hx474_3
                      replace hx474_4 := (cell_far (p := ⟨gb473, 4, none⟩) (by first | (rw [add_block]; exact hn474_4) | (show (Addr.add _ _).block ≠ _; rw [add_block]; exact hn474_4) | exact hn474_4) (.slice A472_4 ((rd_T52 t464 x83_3).f4).length c472_4)).trans hx474_4
                      replace hx474_0 := (cell_far (p := ⟨gb473, 4, none⟩) (by first | (rw [add_block]; exact hn474_5) | (show (Addr.add _ _).block ≠ _; rw [add_block]; exact hn474_5) | exact hn474_5) (.slice none 0 0)).trans hx474_0
                      replace hx474_1 := (cell_far (p := ⟨gb473, 4, none⟩) (by first | (rw [add_block]; exact hn474_5) | (show (Addr.add _ _).block ≠ _; rw [add_block]; exact hn474_5) | exact hn474_5) (.slice none 0 0)).trans hx474_1
                      replace hx474_2 := (cell_far (p := ⟨gb473, 4, none⟩) (by first | (rw [add_block]; exact hn474_5) | (show (Addr.add _ _).block ≠ _; rw [add_block]; exact hn474_5) | exact hn474_5) (.slice none 0 0)).trans hx474_2
                      replace hx474_3 := (cell_far (p := ⟨gb473, 4, none⟩) (by first | (rw [add_block]; exact hn474_5) | (show (Addr.add _ _).block ≠ _; rw [add_block]; exact hn474_5) | exact hn474_5) (.slice none 0 0)).trans hx474_3
                      replace hx474_4 := (cell_far (p := ⟨gb473, 4, none⟩) (by first | (rw [add_block]; exact hn474_5) | (show (Addr.add _ _).block ≠ _; rw [add_block]; exact hn474_5) | exact hn474_5) (.slice none 0 0)).trans hx474_4
                      clear hn474_0
                      clear hn474_1
                      clear hn474_2
                      clear hn474_3
                      clear hn474_4
                      clear hn474_5
                      replace p474 := eq_true p474
                      replace q474 := eq_true q474
                      go_wp2
                      go_meet
                      case rel => exact ⟨_, (true), (by first | rfl | (simp; done) | (simp [*]; done)), H', ⟨by have := HJ8.out; have := HJ16.out; have := HK3.out; first | omega | exact Nat.le_refl _⟩, ⟨by (with_reducible repeat (first | apply Kd.S_alloc | apply Kd.S_drewN | apply Kd.S_drew)); exact Kd.S_mono (Kd.S_far (p := ⟨gb473, 4, none⟩) (Kd.S_far (p := ⟨gb473, 4, none⟩) (Kd.S_far (p := ⟨gb473, 3, none⟩) (Kd.S_far (p := ⟨gb473, 2, none⟩) (Kd.S_far (p := ⟨gb473, 1, none⟩) (Kd.S_far (p := ⟨gb473, 0, none⟩) (Kd.S_mono HO_13.out (fun k_ hk => (⟨hk, hk.2⟩ : _ ∧ k_ ≠ gb473))) (fun _ hk => hk.2) (.int .i64 ((rd_T52 t464 x83_3).f0))) (fun _ hk => hk.2) (.int .i64 ((rd_T52 t464 x83_3).f1))) (fun _ hk => hk.2) (.int .i64 ((rd_T52 t464 x83_3).f2))) (fun _ hk => hk.2) (.int .i64 ((rd_T52 t464 x83_3).f3))) (fun _ hk => hk.2) (.slice A472_4 ((rd_T52 t464 x83_3).f4).length c472_4)) (fun _ hk => hk.2) (.slice none 0 0)) (fun _ hk => ⟨hk.1.1.1, ⟨hk.1.1.2, hk.1.2⟩⟩)⟩, ⟨by (with_reducible repeat (first | apply Kd.S_alloc | apply Kd.S_drewN | apply Kd.S_drew)); exact Kd.S_mono (Kd.S_far (p := ⟨gb473, 4, none⟩) (Kd.S_far (p := ⟨gb473, 4, none⟩) (Kd.S_far (p := ⟨gb473, 3, none⟩) (Kd.S_far (p := ⟨gb473, 2, none⟩) (Kd.S_far (p := ⟨gb473, 1, none⟩) (Kd.S_far (p := ⟨gb473, 0, none⟩) (Kd.S_mono HO_15.out (fun k_ hk => (⟨hk, hk.2⟩ : _ ∧ k_ ≠ gb473))) (fun _ hk => hk.2) (.int .i64 ((rd_T52 t464 x83_3).f0))) (fun _ hk => hk.2) (.int .i64 ((rd_T52 t464 x83_3).f1))) (fun _ hk => hk.2) (.int .i64 ((rd_T52 t464 x83_3).f2))) (fun _ hk => hk.2) (.int .i64 ((rd_T52 t464 x83_3).f3))) (fun _ hk => hk.2) (.slice A472_4 ((rd_T52 t464 x83_3).f4).length c472_4)) (fun _ hk => hk.2) (.slice none 0 0)) (fun _ hk => ⟨hk.1.1.1, ⟨hk.1.1.2, hk.1.2⟩⟩)⟩, ⟨by (with_reducible repeat (first | apply Kd.S_alloc | apply Kd.S_drewN | apply Kd.S_drew)); exact Kd.S_mono (Kd.S_far (p := ⟨gb473, 4, none⟩) (Kd.S_far (p := ⟨gb473, 4, none⟩) (Kd.S_far (p := ⟨gb473, 3, none⟩) (Kd.S_far (p := ⟨gb473, 2, none⟩) (Kd.S_far (p := ⟨gb473, 1, none⟩) (Kd.S_far (p := ⟨gb473, 0, none⟩) (Kd.S_mono HO_17.out (fun k_ hk => (⟨hk, hk.2⟩ : _ ∧ k_ ≠ gb473))) (fun _ hk => hk.2) (.int .i64 ((rd_T52 t464 x83_3).f0))) (fun _ hk => hk.2) (.int .i64 ((rd_T52 t464 x83_3).f1))) (fun _ hk => hk.2) (.int .i64 ((rd_T52 t464 x83_3).f2))) (fun _ hk => hk.2) (.int .i64 ((rd_T52 t464 x83_3).f3))) (fun _ hk => hk.2) (.slice A472_4 ((rd_T52 t464 x83_3).f4).length c472_4)) (fun _ hk => hk.2) (.slice none 0 0)) (fun _ hk => ⟨hk.1.1.1, ⟨hk.1.1.2, hk.1.2⟩⟩)⟩, ⟨by (with_reducible repeat (first | refine blk_drewN ?_ _ | refine blk_drew ?_ | refine blk_alloc ?_ _)); refine blk_put (cs := #[.int .i64 ((rd_T52 t464 x83_3).f0), .int .i64 ((rd_T52 t464 x83_3).f1), .int .i64 ((rd_T52 t464 x83_3).f2), .int .i64 ((rd_T52 t464 x83_3).f3), .slice A472_4 ((rd_T52 t464 x83_3).f4).length c472_4]) ?_ 4 _ rfl; (with_reducible repeat (first | refine blk_drewN ?_ _ | refine blk_drew ?_ | refine blk_alloc ?_ _)); refine blk_put (cs := #[.int .i64 ((rd_T52 t464 x83_3).f0), .int .i64 ((rd_T52 t464 x83_3).f1), .int .i64 ((rd_T52 t464 x83_3).f2), .int .i64 ((rd_T52 t464 x83_3).f3), .slice none 0 0]) ?_ 4 _ rfl; (with_reducible repeat (first | refine blk_drewN ?_ _ | refine blk_drew ?_ | refine blk_alloc ?_ _)); refine blk_put (cs := #[.int .i64 ((rd_T52 t464 x83_3).f0), .int .i64 ((rd_T52 t464 x83_3).f1), .int .i64 ((rd_T52 t464 x83_3).f2), .int .i64 0, .slice none 0 0]) ?_ 3 _ rfl; (with_reducible repeat (first | refine blk_drewN ?_ _ | refine blk_drew ?_ | refine blk_alloc ?_ _)); refine blk_put (cs := #[.int .i64 ((rd_T52 t464 x83_3).f0), .int .i64 ((rd_T52 t464 x83_3).f1), .int .i64 0, .int .i64 0, .slice none 0 0]) ?_ 2 _ rfl; (with_reducible repeat (first | refine blk_drewN ?_ _ | refine blk_drew ?_ | refine blk_alloc ?_ _)); refine blk_put (cs := #[.int .i64 ((rd_T52 t464 x83_3).f0), .int .i64 0, .int .i64 0, .int .i64 0, .slice none 0 0]) ?_ 1 _ rfl; (with_reducible repeat (first | refine blk_drewN ?_ _ | refine blk_drew ?_ | refine blk_alloc ?_ _)); refine blk_put (cs := #[.int .i64 0, .int .i64 0, .int .i64 0, .int .i64 0, .slice none 0 0]) ?_ 0 _ rfl; (with_reducible repeat (first | refine blk_drewN ?_ _ | refine blk_drew ?_ | refine blk_alloc ?_ _)); exact BK473.out⟩, ⟨(Kd.R_reads' (by (with_reducible repeat (first | apply Kd.R_alloc | apply Kd.R_drewN | apply Kd.R_drew)); exact (Kd.R_mono (Kd.R_far (p := ⟨gb473, 4, none⟩) (Kd.R_far (p := ⟨gb473, 4, none⟩) (Kd.R_far (p := ⟨gb473, 3, none⟩) (Kd.R_far (p := ⟨gb473, 2, none⟩) (Kd.R_far (p := ⟨gb473, 1, none⟩) (Kd.R_far (p := ⟨gb473, 0, none⟩) (Kd.R_types HL472_4.out BK473.out (by decide)) (fun _ hk => hk.2) (.int .i64 ((rd_T52 t464 x83_3).f0))) (fun _ hk => hk.2) (.int .i64 ((rd_T52 t464 x83_3).f1))) (fun _ hk => hk.2) (.int .i64 ((rd_T52 t464 x83_3).f2))) (fun _ hk => hk.2) (.int .i64 ((rd_T52 t464 x83_3).f3))) (fun _ hk => hk.2) (.slice A472_4 ((rd_T52 t464 x83_3).f4).length c472_4)) (fun _ hk => hk.2) (.slice none 0 0)) (fun _ h_ => h_.1)))).2.2⟩, ⟨by repeat (first | (with_reducible first | exact HB.out | apply below_alloc | apply pw_below_drewN | apply below_drew1 | refine below_set ?_ GE473.out) | exact HB.out)⟩⟩
                   case rest =>
                    clear HC30
                    try clear c1
                    try clear c2
                    try clear p2
                    try clear c3
                    try clear c4
                    try clear p4
                    try clear q4
                    try clear hx4
                    try clear c5
                    try clear c8
                    try clear c11
                    try clear c11b0
                    try clear c11b1
                    try clear c12
                    try clear c12b0
                    try clear c12b1
                    try clear c12b2
                    try clear c13
                    try clear c13b0
                    try clear c13b1
                    try clear c14
                    try clear c20
                    try clear c20b0
                    try clear c20b1
                    try clear c21
                    try clear c21b0
                    try clear c21b1
                    try clear c23
                    try clear c24
                    try clear c25
                    try clear c25b0
                    try clear c25b1
                    try clear c27
                    try clear c27b0
                    try clear c28
                    try clear c28b0
                    try clear c29
                    try clear c29b0
                    try clear c33
                    try clear c33b0
                    try clear c33b1
                    try clear c33b2
                    try clear c34
                    try clear c34b0
                    try clear hcz32_0
                    try clear hcz32_1
                    try clear hcz32_2
                    try clear hcz32_3
                    try clear hcz32_4
                    try clear hfz32_0
                    try clear hfz32_1
                    try clear hfz32_2
                    try clear hfz32_3
                    try clear hfz32_4
                    try clear hx472_0
                    try clear hx472_1
                    try clear hx472_2
                    try clear hx472_3
                    try clear hx472_4
                    try clear hx474_0
                    try clear hx474_1
                    try clear hx474_2
                    try clear hx474_3
                    try clear hx474_4
                    try clear hx475_0
                    try clear hx475_1
                    try clear hx475_2
                    try clear hx475_3
                    try clear hx475_4
                    try clear p2
                    try clear p472
                    try clear p474
                    try clear p475
                    try clear q472
                    try clear q474
                    try clear q475
                    obtain ⟨kq, x110_29, rfl, HA, HJ29, HO_13, HO_15, HO_17, BK473, HR472_4, HB⟩ := hcut
                    cases kq with
                    | zero => exact absurd HA.out (by simp [testamurlaw08_SharesSum.j3])
                    | succ kj29 =>
                     have H := HA.out
                     clear HA
                     simp only [testamurlaw08_SharesSum.j3] at H
                     by_cases c36 : x110_29 = true
                     · subst c36
                       have H1 : (some false) = some r := by rw [if_pos rfl] at H; exact H
                       clear H
                       have H := H1
                       clear H1
                       obtain rfl := Option.some.inj H
                       go_wp2
                       go_ret
                       exact ⟨by first | rfl | (simp [errW_none, errW_some] <;> rfl) | (simp [*, errW_none, errW_some] <;> rfl), by repeat (first | (with_reducible first | exact HB.out | apply below_alloc | apply pw_below_drewN | apply below_drew1 | refine below_set ?_ GE473.out) | exact HB.out)⟩
                     · replace c36 := Bool.eq_false_iff.mpr c36
                       subst c36
                       have H1 : (testamurlaw08_SharesSum.l1 kj29 l0 l1 t464 t468 x17_3 x83_3 (t464.length : Int) x83_3 (l0.length : Int) 0 ((rd_T52 t464 x83_3).f0) ((rd_T52 t464 x83_3).f1) ((rd_T52 t464 x83_3).f2) ((rd_T52 t464 x83_3).f3) ([] : List Int)) = some r := by rw [if_neg (show ¬ (false = true) by decide)] at H; exact H
                       clear H
                       have H := H1
                       clear H1
                       have H' := Aside0.mk H
                       clear H
                       go_wp2
                       go_loopg [113] kj29 (fun kq v113 w' => ∃ (x113_5 : Int) (x474004_5 : List Int) (u474004 : Value), v113 = .int .i64 x113_5 ∧ Aside0 (testamurlaw08_SharesSum.l1 kq l0 l1 t464 t468 x17_3 x83_3 (t464.length : Int) x83_3 (l0.length : Int) x113_5 ((rd_T52 t464 x83_3).f0) ((rd_T52 t464 x83_3).f1) ((rd_T52 t464 x83_3).f2) ((rd_T52 t464 x83_3).f3) x474004_5 = some r) ∧ Aside0 (kq ≤ kj29) ∧ Aside0 (Kd.S k52 52 w' w.heap.size (fun k_ => some k_ ≠ (v470 : Value).ownBlock ∧ some k_ ≠ (u17 : Value).ownBlock ∧ some k_ ≠ (u474004 : Value).ownBlock ∧ k_ ≠ gb473) (.slice (some ad472) t464.length co26) t464) ∧ Aside0 (Kd.S k52 52 w' w.heap.size (fun k_ => some k_ ≠ ((.slice (some ad472) t464.length co26) : Value).ownBlock ∧ some k_ ≠ (u17 : Value).ownBlock ∧ some k_ ≠ (u474004 : Value).ownBlock ∧ k_ ≠ gb473) v470 t468) ∧ Aside0 (Kd.S k52 52 w' w.heap.size (fun k_ => some k_ ≠ ((.slice (some ad472) t464.length co26) : Value).ownBlock ∧ some k_ ≠ (v470 : Value).ownBlock ∧ some k_ ≠ (u474004 : Value).ownBlock ∧ k_ ≠ gb473) u17 x17_3) ∧ Aside0 (Kd.R (Kd.int .u8) 5 w' w.heap.size (fun _ => True) u474004 x474004_5) ∧ Aside0 (w'.heap[gb473]? = some (.cells #[.int .i64 ((rd_T52 t464 x83_3).f0), .int .i64 ((rd_T52 t464 x83_3).f1), .int .i64 ((rd_T52 t464 x83_3).f2), .int .i64 ((rd_T52 t464 x83_3).f3), u474004] 52 (0, 0))) ∧ Aside0 (Below w.heap.size w w'))
                       case atStart => exact ⟨(0), (([] : List Int)), (.slice none 0 0), (by first | rfl | (simp; done) | (simp [*]; done)), H', ⟨Nat.le_refl _⟩, ⟨by (with_reducible repeat (first | apply Kd.S_alloc | apply Kd.S_drewN | apply Kd.S_drew)); exact Kd.S_mono HO_13.out (fun _ hk => ⟨hk.1, ⟨hk.2.1, ⟨(by simp [Value.ownBlock]), hk.2.2⟩⟩⟩)⟩, ⟨by (with_reducible repeat (first | apply Kd.S_alloc | apply Kd.S_drewN | apply Kd.S_drew)); exact Kd.S_mono HO_15.out (fun _ hk => ⟨hk.1, ⟨hk.2.1, ⟨(by simp [Value.ownBlock]), hk.2.2⟩⟩⟩)⟩, ⟨by (with_reducible repeat (first | apply Kd.S_alloc | apply Kd.S_drewN | apply Kd.S_drew)); exact Kd.S_mono HO_17.out (fun _ hk => ⟨hk.1, ⟨hk.2.1, ⟨(by simp [Value.ownBlock]), hk.2.2⟩⟩⟩)⟩, ⟨by first | exact Kd.R_nil _ _ _ _ _ | exact Kd.N_nil _ _ _ _ _ | exact Kd.V_nil _ _ _ _ _ | exact Kd.Q_nil _ _ _ _ _ | exact Kd.S_nil _ _ _ _ _⟩, ⟨by (with_reducible repeat (first | refine blk_drewN ?_ _ | refine blk_drew ?_ | refine blk_alloc ?_ _)); exact BK473.out⟩, ⟨by repeat (first | (with_reducible first | exact HB.out | apply below_alloc | apply pw_below_drewN | apply below_drew1 | refine below_set ?_ GE473.out) | exact HB.out)⟩⟩
                       case round =>
                        clear H'
                        try clear c1
                        try clear c2
                        try clear p2
                        try clear c3
                        try clear c4
                        try clear p4
                        try clear q4
                        try clear hx4
                        try clear c5
                        try clear c8
                        try clear c11
                        try clear c11b0
                        try clear c11b1
                        try clear c12
                        try clear c12b0
                        try clear c12b1
                        try clear c12b2
                        try clear c13
                        try clear c13b0
                        try clear c13b1
                        try clear c14
                        try clear c20
                        try clear c20b0
                        try clear c20b1
                        try clear c21
                        try clear c21b0
                        try clear c21b1
                        try clear c23
                        try clear c24
                        try clear c25
                        try clear c25b0
                        try clear c25b1
                        try clear c27
                        try clear c27b0
                        try clear c28
                        try clear c28b0
                        try clear c29
                        try clear c29b0
                        try clear c33
                        try clear c33b0
                        try clear c33b1
                        try clear c33b2
                        try clear c34
                        try clear c34b0
                        try clear c36
                        try clear hcz32_0
                        try clear hcz32_1
                        try clear hcz32_2
                        try clear hcz32_3
                        try clear hcz32_4
                        try clear hfz32_0
                        try clear hfz32_1
                        try clear hfz32_2
                        try clear hfz32_3
                        try clear hfz32_4
                        try clear hx472_0
                        try clear hx472_1
                        try clear hx472_2
                        try clear hx472_3
                        try clear hx472_4
                        try clear hx474_0
                        try clear hx474_1
                        try clear hx474_2
                        try clear hx474_3
                        try clear hx474_4
                        try clear hx475_0
                        try clear hx475_1
                        try clear hx475_2
                        try clear hx475_3
                        try clear hx475_4
                        try clear p2
                        try clear p4
                        try clear p472
                        try clear p474
                        try clear p475
                        try clear q4
                        try clear q472
                        try clear q474
                        try clear q475
                        obtain ⟨x113_5, x474004_5, u474004, rfl, HA, HK5, HO_13, HO_15, HO_17, HO_474004, BK473, HB⟩ := hrel
                        cases gk with
                        | zero => exact absurd HA.out (by simp [testamurlaw08_SharesSum.l1])
                        | succ k5 =>
                         have H := HA.out
                         clear HA
                         simp only [testamurlaw08_SharesSum.l1] at H
                         by_cases c37 : x113_5 < (l0.length : Int)
                         · rw [if_pos c37] at H
                           have c37b0 : decide (x113_5 < (l0.length : Int)) = true := decide_eq_true c37
                           clear c37
                           by_cases c38 : 0 ≤ x83_3
                           · rw [if_pos c38] at H
                             have c38b0 : decide (0 ≤ x83_3) = true := decide_eq_true c38
                             clear c38
                             by_cases c39 : x83_3 < (t464.length : Int)
                             · rw [if_pos c39] at H
                               have c39b0 : decide (x83_3 < (t464.length : Int)) = true := decide_eq_true c39
                               clear c39
                               by_cases c40 : 0 ≤ x113_5
                               · rw [if_pos c40] at H
                                 have c40b0 : decide (0 ≤ x113_5) = true := decide_eq_true c40
                                 clear c40
                                 by_cases c41 : x113_5 < (((rd_T52 t464 x83_3).f4).length : Int)
                                 · rw [if_pos c41] at H
                                   have c41b0 : decide (x113_5 < (((rd_T52 t464 x83_3).f4).length : Int)) = true := decide_eq_true c41
                                   clear c41
                                   by_cases c42 : x83_3 < (t468.length : Int)
                                   · rw [if_pos c42] at H
                                     have c42b0 : decide (x83_3 < (t468.length : Int)) = true := decide_eq_true c42
                                     clear c42
                                     by_cases c43 : x113_5 < (((rd_T52 t468 x83_3).f4).length : Int)
                                     · rw [if_pos c43] at H
                                       have c43b0 : decide (x113_5 < (((rd_T52 t468 x83_3).f4).length : Int)) = true := decide_eq_true c43
                                       clear c43
                                       by_cases c44 : x474004_5.length < 140737488355328
                                       · rw [if_pos c44] at H
                                         have LMc44 := Aside0.mk c44
                                         clear c44
                                         obtain ⟨y480, hy480⟩ : ∃ y_ : List Int, y_ = (x474004_5 ++ [Go.bits .xor .u8 (rd ((rd_T52 t464 x83_3).f4) x113_5) (rd ((rd_T52 t468 x83_3).f4) x113_5)]) := ⟨_, rfl⟩
                                         replace H : (testamurlaw08_SharesSum.l1 k5 l0 l1 t464 t468 x17_3 x83_3 (t464.length : Int) x83_3 (l0.length : Int) (wrap64 (x113_5 + 1)) ((rd_T52 t464 x83_3).f0) ((rd_T52 t464 x83_3).f1) ((rd_T52 t464 x83_3).f2) ((rd_T52 t464 x83_3).f3) y480) = some r := by first | (rw [hy480]; with_reducible exact H) | (have H2_ := (Option.bind_some _ _).symm.trans H; rw [hy480]; with_reducible exact H2_) | (have H2_ := (Option.bind_some _ _).symm.trans H; with_reducible exact H2_) | with_reducible exact H | (rw [hy480]; exact H) | exact H
                                         have Ny480 := Aside0.mk hy480
                                         clear hy480
                                         have H' := Aside0.mk H
                                         clear H
                                         try go_wp2
                                         have n0_ := Aside0.mk (Kd.S_drew HO_13.out)
                                         have n1_ := Aside0.mk (Kd.S_drew HO_15.out)
                                         have n2_ := Aside0.mk (Kd.S_drew HO_17.out)
                                         have n3_ := Aside0.mk (Kd.R_drew HO_474004.out)
                                         have n4_ := Aside0.mk (blk_drew BK473.out)
                                         have n5_ := Aside0.mk (below_drew1 HB.out)
                                         clear HO_13
                                         clear HO_15
                                         clear HO_17
                                         clear HO_474004
                                         clear BK473
                                         clear HB
                                         have HO_13 := n0_
                                         have HO_15 := n1_
                                         have HO_17 := n2_
                                         have HO_474004 := n3_
                                         have BK473 := n4_
                                         have HB := n5_
                                         clear n0_ n1_ n2_ n3_ n4_ n5_
                                         have p476 : 0 ≤ (x83_3 : Int) := of_decide_eq_true (by first | (with_reducible assumption) | assumption)
                                         have q476 : x83_3 < (t464.length : Int) := of_decide_eq_true (by first | (with_reducible assumption) | assumption)
                                         obtain ⟨ad476, A476_4, c476_4, e476, hx476_0, hx476_1, hx476_2, hx476_3, hx476_4, hl476_4, hi476_4⟩ := at_T52 (Kd.S_reads' HO_13.out).2.2 x83_3 p476 q476
                                         obtain rfl : ad472 = ad476 := (by injection e476)
                                         obtain ⟨ce476, hce476, hMe476, hcc476⟩ := Kd.S_get HO_13.out z52 x83_3 p476 (by first | exact q476 | exact of_decide_eq_true (by first | (with_reducible assumption) | assumption) | (have e_ := (Kd.S_reads' HO_13.out).1; omega))
                                         obtain ⟨ve476_4, rfl, ge476_4⟩ := k52_openM hMe476
                                         have hv476_4 := hcc476 4 _ rfl
                                         rw [add_field _ _ 4 (by omega)] at hv476_4
                                         replace hv476_4 := Option.some.inj (hv476_4.symm.trans hx476_4)
                                         rw [hv476_4] at ge476_4
                                         have HL476_4 := Aside0.mk (show Kd.R (Kd.int .u8) 5 _ _ _ _ ((rd_T52 t464 x83_3).f4) from ge476_4)
                                         clear hv476_4 ge476_4
                                         clear hcc476 hce476
                                         have HR476_4 := Aside0.mk hi476_4
                                         have HC476_4 := Aside0.mk hl476_4
                                         clear hi476_4 hl476_4
                                         replace p476 := eq_true p476
                                         replace q476 := eq_true q476
                                         have p477 : 0 ≤ (x113_5 : Int) := of_decide_eq_true (by first | (with_reducible assumption) | assumption)
                                         have q477 : x113_5 < (((rd_T52 t464 x83_3).f4).length : Int) := of_decide_eq_true (by first | (with_reducible assumption) | assumption)
                                         obtain ⟨ad477, e477, hx477_0⟩ := Kd.at_int (by repeat (first | (with_reducible exact HR476_4.out) | (with_reducible refine Kd.C_alloc ?_ _) | (with_reducible refine Kd.C_drewN ?_ _) | (with_reducible refine Kd.C_drew ?_) | exact HR476_4.out)) x113_5 p477 q477
                                         cases e477
                                         replace p477 := eq_true p477
                                         replace q477 := eq_true q477
                                         obtain ⟨Ao46, co46, eo46⟩ := Kd.S_slice HO_15.out
                                         (first | subst eo46 | (injection eo46 with f1_ f2_ f3_; have f4_ := f1_.symm; have f5_ := f3_.symm; clear f1_ f2_ f3_; subst f4_; subst f5_))
                                         have p478 : 0 ≤ (x83_3 : Int) := of_decide_eq_true (by first | (with_reducible assumption) | assumption)
                                         have q478 : x83_3 < (t468.length : Int) := of_decide_eq_true (by first | (with_reducible assumption) | assumption)
                                         obtain ⟨ad478, A478_4, c478_4, e478, hx478_0, hx478_1, hx478_2, hx478_3, hx478_4, hl478_4, hi478_4⟩ := at_T52 (Kd.S_reads' HO_15.out).2.2 x83_3 p478 q478
                                         cases e478
                                         obtain ⟨ce478, hce478, hMe478, hcc478⟩ := Kd.S_get HO_15.out z52 x83_3 p478 (by first | exact q478 | exact of_decide_eq_true (by first | (with_reducible assumption) | assumption) | (have e_ := (Kd.S_reads' HO_15.out).1; omega))
                                         obtain ⟨ve478_4, rfl, ge478_4⟩ := k52_openM hMe478
                                         have hv478_4 := hcc478 4 _ rfl
                                         rw [add_field _ _ 4 (by omega)] at hv478_4
                                         replace hv478_4 := Option.some.inj (hv478_4.symm.trans hx478_4)
                                         rw [hv478_4] at ge478_4
                                         have HL478_4 := Aside0.mk (show Kd.R (Kd.int .u8) 5 _ _ _ _ ((rd_T52 t468 x83_3).f4) from ge478_4)
                                         clear hv478_4 ge478_4
                                         clear hcc478 hce478
                                         have HR478_4 := Aside0.mk hi478_4
                                         have HC478_4 := Aside0.mk hl478_4
                                         clear hi478_4 hl478_4
                                         replace p478 := eq_true p478
                                         replace q478 := eq_true q478
                                         have p479 : 0 ≤ (x113_5 : Int) := of_decide_eq_true (by first | (with_reducible assumption) | assumption)
                                         have q479 : x113_5 < (((rd_T52 t468 x83_3).f4).length : Int) := of_decide_eq_true (by first | (with_reducible assumption) | assumption)
                                         obtain ⟨ad479, e479, hx479_0⟩ := Kd.at_int (by repeat (first | (with_reducible exact HR478_4.out) | (with_reducible refine Kd.C_alloc ?_ _) | (with_reducible refine Kd.C_drewN ?_ _) | (with_reducible refine Kd.C_drew ?_) | exact HR478_4.out)) x113_5 p479 q479
                                         cases e479
                                         replace p479 := eq_true p479
                                         replace q479 := eq_true q479
                                         refine start_ (n := 23) (S := fun w' => w'.cell? ⟨gb473, 0, none⟩ = some (.int .i64 ((rd_T52 t464 x83_3).f0)) ∧ w'.cell? ⟨gb473, 1, none⟩ = some (.int .i64 ((rd_T52 t464 x83_3).f1)) ∧ w'.cell? ⟨gb473, 2, none⟩ = some (.int .i64 ((rd_T52 t464 x83_3).f2)) ∧ w'.cell? ⟨gb473, 3, none⟩ = some (.int .i64 ((rd_T52 t464 x83_3).f3)) ∧ w'.cell? ⟨gb473, 4, none⟩ = some (u474004) ∧ w'.cell? (ad472.add ((x83_3).toNat * 5)) = some (.int .i64 ((rd_T52 t464 x83_3).f0)) ∧ w'.cell? ⟨(ad472.add ((x83_3).toNat * 5)).block, (ad472.add ((x83_3).toNat * 5)).off + 1, none⟩ = some (.int .i64 ((rd_T52 t464 x83_3).f1)) ∧ w'.cell? ⟨(ad472.add ((x83_3).toNat * 5)).block, (ad472.add ((x83_3).toNat * 5)).off + 2, none⟩ = some (.int .i64 ((rd_T52 t464 x83_3).f2)) ∧ w'.cell? ⟨(ad472.add ((x83_3).toNat * 5)).block, (ad472.add ((x83_3).toNat * 5)).off + 3, none⟩ = some (.int .i64 ((rd_T52 t464 x83_3).f3)) ∧ w'.cell? ⟨(ad472.add ((x83_3).toNat * 5)).block, (ad472.add ((x83_3).toNat * 5)).off + 4, none⟩ = some (.slice (some ad477) ((rd_T52 t464 x83_3).f4).length c476_4) ∧ w'.cell? (ad477.add (x113_5).toNat) = some (.int .u8 (rd ((rd_T52 t464 x83_3).f4) x113_5)) ∧ w'.cell? (ad478.add ((x83_3).toNat * 5)) = some (.int .i64 ((rd_T52 t468 x83_3).f0)) ∧ w'.cell? ⟨(ad478.add ((x83_3).toNat * 5)).block, (ad478.add ((x83_3).toNat * 5)).off + 1, none⟩ = some (.int .i64 ((rd_T52 t468 x83_3).f1)) ∧ w'.cell? ⟨(ad478.add ((x83_3).toNat * 5)).block, (ad478.add ((x83_3).toNat * 5)).off + 2, none⟩ = some (.int .i64 ((rd_T52 t468 x83_3).f2)) ∧ w'.cell? ⟨(ad478.add ((x83_3).toNat * 5)).block, (ad478.add ((x83_3).toNat * 5)).off + 3, none⟩ = some (.int .i64 ((rd_T52 t468 x83_3).f3)) ∧ w'.cell? ⟨(ad478.add ((x83_3).toNat * 5)).block, (ad478.add ((x83_3).toNat * 5)).off + 4, none⟩ = some (.slice (some ad479) ((rd_T52 t468 x83_3).f4).length c478_4) ∧ w'.cell? (ad479.add (x113_5).toNat) = some (.int .u8 (rd ((rd_T52 t468 x83_3).f4) x113_5))) (ds := [20, 22]) #[false, false, false, false, false, false, false, false, false, false, false, false, false, false, false, false, false, false, false, false, false, false, false] (by kernel_rfl) rfl rfl ⟨(blk_cell BK473.out 0).trans rfl, (blk_cell BK473.out 1).trans rfl, (blk_cell BK473.out 2).trans rfl, (blk_cell BK473.out 3).trans rfl, (blk_cell BK473.out 4).trans rfl, hx476_0, hx476_1, hx476_2, hx476_3, hx476_4, hx477_0, hx478_0, hx478_1, hx478_2, hx478_3, hx478_4, hx479_0⟩ (fun hHeld => ?_); refine with_tabW testamurlaw08_SharesSum.tab20 testamurlaw08_SharesSum.bits20 (fun HT_ HW_ => ?_)
                                         generalize wr.drew = w45 at HO_13 HO_15 HO_17 HO_474004 BK473 HB HL476_4 HL478_4 HR476_4 HR478_4 hx476_0 hx476_1 hx476_2 hx476_3 hx476_4 hx477_0 hx478_0 hx478_1 hx478_2 hx478_3 hx478_4 hx479_0 hHeld ⊢
                                         refine pure_ (i := 0) (N := some 116) (v := ?_) (a' := ?_) #[true, false, false, false, false, false, false, false, false, false, false, false, false, false, false, false, false, false, false, false, false, false, false] rfl rfl (any_of HT_.out (by kernel_rfl)) (fun _ _ _ h => h) (Or.inl ⟨by rfl, ?_⟩) ?_ ?_
                                         rotate_left
                                         · intro w'
                                           go_simp
                                           with_reducible rfl
                                         rotate_left
                                         · simp only [Act.put, List.setIfInBounds_toArray, List.set_cons_zero, List.set_cons_succ, i64_w, i32_w]
                                           rfl
                                         refine pure_ (i := 2) (N := some 118) (v := ?_) (a' := ?_) #[true, false, true, false, false, false, false, false, false, false, false, false, false, false, false, false, false, false, false, false, false, false, false] rfl rfl (any_of HT_.out (by kernel_rfl)) (fun _ _ _ h => h) (Or.inl ⟨by rfl, ?_⟩) ?_ ?_
                                         rotate_left
                                         · intro w'
                                           go_simp
                                           with_reducible rfl
                                         rotate_left
                                         · simp only [Act.put, List.setIfInBounds_toArray, List.set_cons_zero, List.set_cons_succ, i64_w, i32_w]
                                           rfl
                                         refine pure_ (i := 3) (N := some 119) (v := ?_) (a' := ?_) #[true, false, true, true, false, false, false, false, false, false, false, false, false, false, false, false, false, false, false, false, false, false, false] rfl rfl (any_of HT_.out (by kernel_rfl)) (fun _ _ _ h => h) (Or.inl ⟨by rfl, ?_⟩) ?_ ?_
                                         rotate_left
                                         · intro w'
                                           go_simp
                                           with_reducible rfl
                                         rotate_left
                                         · simp only [Act.put, List.setIfInBounds_toArray, List.set_cons_zero, List.set_cons_succ, i64_w, i32_w]
                                           rfl
                                         refine pure_ (i := 4) (N := some 120) (v := ?_) (a' := ?_) #[true, false, true, true, true, false, false, false, false, false, false, false, false, false, false, false, false, false, false, false, false, false, false] rfl rfl (any_of HT_.out (by kernel_rfl)) (fun _ _ _ h => h) (Or.inl ⟨by rfl, ?_⟩) ?_ ?_
                                         rotate_left
                                         · intro w'
                                           go_simp
                                           with_reducible rfl
                                         rotate_left
                                         · simp only [Act.put, List.setIfInBounds_toArray, List.set_cons_zero, List.set_cons_succ, i64_w, i32_w]
                                           rfl
                                         refine pure_ (i := 5) (N := some 121) (v := ?_) (a' := ?_) #[true, false, true, true, true, true, false, false, false, false, false, false, false, false, false, false, false, false, false, false, false, false, false] rfl rfl (any_of HT_.out (by kernel_rfl)) (fun _ _ _ h => h) (Or.inl ⟨by rfl, ?_⟩) ?_ ?_
                                         rotate_left
                                         · intro w'
                                           go_simp
                                           with_reducible rfl
                                         rotate_left
                                         · simp only [Act.put, List.setIfInBounds_toArray, List.set_cons_zero, List.set_cons_succ, i64_w, i32_w]
                                           rfl
                                         refine pure_ (i := 7) (N := some 123) (v := ?_) (a' := ?_) #[true, false, true, true, true, true, false, true, false, false, false, false, false, false, false, false, false, false, false, false, false, false, false] rfl rfl (any_of HT_.out (by kernel_rfl)) (fun _ _ _ h => h) (Or.inl ⟨by rfl, ?_⟩) ?_ ?_
                                         rotate_left
                                         · intro w'
                                           go_simp
                                           with_reducible rfl
                                         rotate_left
                                         · simp only [Act.put, List.setIfInBounds_toArray, List.set_cons_zero, List.set_cons_succ, i64_w, i32_w]
                                           rfl
                                         refine pure_ (i := 10) (N := some 126) (v := ?_) (a' := ?_) #[true, false, true, true, true, true, false, true, false, false, true, false, false, false, false, false, false, false, false, false, false, false, false] rfl rfl (any_of HT_.out (by kernel_rfl)) (fun _ _ _ h => h) (Or.inl ⟨by rfl, ?_⟩) ?_ ?_
                                         rotate_left
                                         · intro w'
                                           go_simp
                                           with_reducible rfl
                                         rotate_left
                                         · simp only [Act.put, List.setIfInBounds_toArray, List.set_cons_zero, List.set_cons_succ, i64_w, i32_w]
                                           rfl
                                         refine pure_ (i := 11) (N := some 127) (v := ?_) (a' := ?_) #[true, false, true, true, true, true, false, true, false, false, true, true, false, false, false, false, false, false, false, false, false, false, false] rfl rfl (any_of HT_.out (by kernel_rfl)) (fun _ _ _ h => h) (Or.inl ⟨by rfl, ?_⟩) ?_ ?_
                                         rotate_left
                                         · intro w'
                                           go_simp
                                           with_reducible rfl
                                         rotate_left
                                         · simp only [Act.put, List.setIfInBounds_toArray, List.set_cons_zero, List.set_cons_succ, i64_w, i32_w]
                                           rfl
                                         refine pure_ (i := 12) (N := some 128) (v := ?_) (a' := ?_) #[true, false, true, true, true, true, false, true, false, false, true, true, true, false, false, false, false, false, false, false, false, false, false] rfl rfl (any_of HT_.out (by kernel_rfl)) (fun _ _ _ h => h) (Or.inl ⟨by rfl, ?_⟩) ?_ ?_
                                         rotate_left
                                         · intro w'
                                           go_simp
                                           with_reducible rfl
                                         rotate_left
                                         · simp only [Act.put, List.setIfInBounds_toArray, List.set_cons_zero, List.set_cons_succ, i64_w, i32_w]
                                           rfl
                                         refine pure_ (i := 13) (N := some 129) (v := ?_) (a' := ?_) #[true, false, true, true, true, true, false, true, false, false, true, true, true, true, false, false, false, false, false, false, false, false, false] rfl rfl (any_of HT_.out (by kernel_rfl)) (fun _ _ _ h => h) (Or.inl ⟨by rfl, ?_⟩) ?_ ?_
                                         rotate_left
                                         · intro w'
                                           go_simp
                                           with_reducible rfl
                                         rotate_left
                                         · simp only [Act.put, List.setIfInBounds_toArray, List.set_cons_zero, List.set_cons_succ, i64_w, i32_w]
                                           rfl
                                         refine pure_ (i := 15) (N := some 131) (v := ?_) (a' := ?_) #[true, false, true, true, true, true, false, true, false, false, true, true, true, true, false, true, false, false, false, false, false, false, false] rfl rfl (any_of HT_.out (by kernel_rfl)) (fun _ _ _ h => h) (Or.inl ⟨by rfl, ?_⟩) ?_ ?_
                                         rotate_left
                                         · intro w'
                                           go_simp
                                           with_reducible rfl
                                         rotate_left
                                         · simp only [Act.put, List.setIfInBounds_toArray, List.set_cons_zero, List.set_cons_succ, i64_w, i32_w]
                                           rfl
                                         refine take_ (i := 1) (N := some 117) (v := ?_) (a' := ?_) #[true, true, true, true, true, true, false, true, false, false, true, true, true, true, false, true, false, false, false, false, false, false, false] rfl rfl (take_ofW HT_.out HW_.out (by kernel_rfl)) (fun _ _ _ h => h) (Or.inl ⟨by rfl, ?_⟩) hHeld ?_ ?_
                                         rotate_left
                                         · rintro w' ⟨s0, s1, s2, s3, s4, s5, s6, s7, s8, s9, s10, s11, s12, s13, s14, s15, s16⟩
                                           go_simp
                                           with_reducible rfl
                                         rotate_left
                                         · simp only [Act.put, List.setIfInBounds_toArray, List.set_cons_zero, List.set_cons_succ, i64_w, i32_w]
                                           rfl
                                         refine take_ (i := 6) (N := some 122) (v := ?_) (a' := ?_) #[true, true, true, true, true, true, true, true, false, false, true, true, true, true, false, true, false, false, false, false, false, false, false] rfl rfl (take_ofW HT_.out HW_.out (by kernel_rfl)) (fun _ _ _ h => h) (Or.inl ⟨by rfl, ?_⟩) hHeld ?_ ?_
                                         rotate_left
                                         · rintro w' ⟨s0, s1, s2, s3, s4, s5, s6, s7, s8, s9, s10, s11, s12, s13, s14, s15, s16⟩
                                           go_simp
                                           with_reducible rfl
                                         rotate_left
                                         · simp only [Act.put, List.setIfInBounds_toArray, List.set_cons_zero, List.set_cons_succ, i64_w, i32_w]
                                           rfl
                                         refine pure_ (i := 8) (N := some 124) (v := ?_) (a' := ?_) #[true, true, true, true, true, true, true, true, true, false, true, true, true, true, false, true, false, false, false, false, false, false, false] rfl rfl (any_of HT_.out (by kernel_rfl)) (fun _ _ _ h => h) (Or.inl ⟨by rfl, ?_⟩) ?_ ?_
                                         rotate_left
                                         · intro w'
                                           go_simp
                                           with_reducible rfl
                                         rotate_left
                                         · simp only [Act.put, List.setIfInBounds_toArray, List.set_cons_zero, List.set_cons_succ, i64_w, i32_w]
                                           rfl
                                         refine take_ (i := 9) (N := some 125) (v := ?_) (a' := ?_) #[true, true, true, true, true, true, true, true, true, true, true, true, true, true, false, true, false, false, false, false, false, false, false] rfl rfl (take_ofW HT_.out HW_.out (by kernel_rfl)) (fun _ _ _ h => h) (Or.inl ⟨by rfl, ?_⟩) hHeld ?_ ?_
                                         rotate_left
                                         · rintro w' ⟨s0, s1, s2, s3, s4, s5, s6, s7, s8, s9, s10, s11, s12, s13, s14, s15, s16⟩
                                           go_simp
                                           with_reducible rfl
                                         rotate_left
                                         · simp only [Act.put, List.setIfInBounds_toArray, List.set_cons_zero, List.set_cons_succ, i64_w, i32_w]
                                           rfl
                                         refine take_ (i := 14) (N := some 130) (v := ?_) (a' := ?_) #[true, true, true, true, true, true, true, true, true, true, true, true, true, true, true, true, false, false, false, false, false, false, false] rfl rfl (take_ofW HT_.out HW_.out (by kernel_rfl)) (fun _ _ _ h => h) (Or.inl ⟨by rfl, ?_⟩) hHeld ?_ ?_
                                         rotate_left
                                         · rintro w' ⟨s0, s1, s2, s3, s4, s5, s6, s7, s8, s9, s10, s11, s12, s13, s14, s15, s16⟩
                                           go_simp
                                           with_reducible rfl
                                         rotate_left
                                         · simp only [Act.put, List.setIfInBounds_toArray, List.set_cons_zero, List.set_cons_succ, i64_w, i32_w]
                                           rfl
                                         refine pure_ (i := 16) (N := some 132) (v := ?_) (a' := ?_) #[true, true, true, true, true, true, true, true, true, true, true, true, true, true, true, true, true, false, false, false, false, false, false] rfl rfl (any_of HT_.out (by kernel_rfl)) (fun _ _ _ h => h) (Or.inl ⟨by rfl, ?_⟩) ?_ ?_
                                         rotate_left
                                         · intro w'
                                           go_simp
                                           with_reducible rfl
                                         rotate_left
                                         · simp only [Act.put, List.setIfInBounds_toArray, List.set_cons_zero, List.set_cons_succ, i64_w, i32_w]
                                           rfl
                                         refine take_ (i := 17) (N := some 133) (v := ?_) (a' := ?_) #[true, true, true, true, true, true, true, true, true, true, true, true, true, true, true, true, true, true, false, false, false, false, false] rfl rfl (take_ofW HT_.out HW_.out (by kernel_rfl)) (fun _ _ _ h => h) (Or.inl ⟨by rfl, ?_⟩) hHeld ?_ ?_
                                         rotate_left
                                         · rintro w' ⟨s0, s1, s2, s3, s4, s5, s6, s7, s8, s9, s10, s11, s12, s13, s14, s15, s16⟩
                                           go_simp
                                           with_reducible rfl
                                         rotate_left
                                         · simp only [Act.put, List.setIfInBounds_toArray, List.set_cons_zero, List.set_cons_succ, i64_w, i32_w]
                                           rfl
                                         refine pure_ (i := 18) (N := some 134) (v := ?_) (a' := ?_) #[true, true, true, true, true, true, true, true, true, true, true, true, true, true, true, true, true, true, true, false, false, false, false] rfl rfl (any_of HT_.out (by kernel_rfl)) (fun _ _ _ h => h) (Or.inl ⟨by rfl, ?_⟩) ?_ ?_
                                         rotate_left
                                         · intro w'
                                           go_simp
                                           with_reducible rfl
                                         rotate_left
                                         · simp only [Act.put, List.setIfInBounds_toArray, List.set_cons_zero, List.set_cons_succ, i64_w, i32_w]
                                           rfl
                                         refine one_ (i := 19) (N := some 135) #[true, true, true, true, true, true, true, true, true, true, true, true, true, true, true, true, true, true, true, true, false, false, false] rfl rfl (one_of HT_.out (by kernel_rfl)) (by decide) (fun K hK => ?_)
                                         refine value_ (w1 := ?_) (v := ?_) (by rfl) rfl ?_ ?_
                                         rotate_left 2
                                         · go_simp
                                           constructor
                                           · rfl
                                           · rfl
                                         refine hK.out _ _ ⟨(blk_cell (blk_alloc BK473.out _) 0).trans rfl, (blk_cell (blk_alloc BK473.out _) 1).trans rfl, (blk_cell (blk_alloc BK473.out _) 2).trans rfl, (blk_cell (blk_alloc BK473.out _) 3).trans rfl, (blk_cell (blk_alloc BK473.out _) 4).trans rfl, (World.cell?_alloc_lt _ _ _ (World.block_lt_of_cell? _ _ (hHeld.2.2.2.2.2.1))).trans (hHeld.2.2.2.2.2.1), (World.cell?_alloc_lt _ _ _ (World.block_lt_of_cell? _ _ (hHeld.2.2.2.2.2.2.1))).trans (hHeld.2.2.2.2.2.2.1), (World.cell?_alloc_lt _ _ _ (World.block_lt_of_cell? _ _ (hHeld.2.2.2.2.2.2.2.1))).trans (hHeld.2.2.2.2.2.2.2.1), (World.cell?_alloc_lt _ _ _ (World.block_lt_of_cell? _ _ (hHeld.2.2.2.2.2.2.2.2.1))).trans (hHeld.2.2.2.2.2.2.2.2.1), (World.cell?_alloc_lt _ _ _ (World.block_lt_of_cell? _ _ (hHeld.2.2.2.2.2.2.2.2.2.1))).trans (hHeld.2.2.2.2.2.2.2.2.2.1), (World.cell?_alloc_lt _ _ _ (World.block_lt_of_cell? _ _ (hHeld.2.2.2.2.2.2.2.2.2.2.1))).trans (hHeld.2.2.2.2.2.2.2.2.2.2.1), (World.cell?_alloc_lt _ _ _ (World.block_lt_of_cell? _ _ (hHeld.2.2.2.2.2.2.2.2.2.2.2.1))).trans (hHeld.2.2.2.2.2.2.2.2.2.2.2.1), (World.cell?_alloc_lt _ _ _ (World.block_lt_of_cell? _ _ (hHeld.2.2.2.2.2.2.2.2.2.2.2.2.1))).trans (hHeld.2.2.2.2.2.2.2.2.2.2.2.2.1), (World.cell?_alloc_lt _ _ _ (World.block_lt_of_cell? _ _ (hHeld.2.2.2.2.2.2.2.2.2.2.2.2.2.1))).trans (hHeld.2.2.2.2.2.2.2.2.2.2.2.2.2.1), (World.cell?_alloc_lt _ _ _ (World.block_lt_of_cell? _ _ (hHeld.2.2.2.2.2.2.2.2.2.2.2.2.2.2.1))).trans (hHeld.2.2.2.2.2.2.2.2.2.2.2.2.2.2.1), (World.cell?_alloc_lt _ _ _ (World.block_lt_of_cell? _ _ (hHeld.2.2.2.2.2.2.2.2.2.2.2.2.2.2.2.1))).trans (hHeld.2.2.2.2.2.2.2.2.2.2.2.2.2.2.2.1), (World.cell?_alloc_lt _ _ _ (World.block_lt_of_cell? _ _ (hHeld.2.2.2.2.2.2.2.2.2.2.2.2.2.2.2.2))).trans (hHeld.2.2.2.2.2.2.2.2.2.2.2.2.2.2.2.2)⟩ (fun hHeld => ?_)
                                         clear hK K
                                         refine norm_ (a' := ?_) ?_ ?_
                                         rotate_left
                                         · show Act.put _ (some 135) _ = _
                                           simp only [Act.put, List.setIfInBounds_toArray, List.set_cons_zero, List.set_cons_succ, i64_w, i32_w]
                                           rfl
                                         refine last_ (i := 20) (N := some 136) #[true, true, true, true, true, true, true, true, true, true, true, true, true, true, true, true, true, true, true, true, true, false, false] rfl rfl (one_of HT_.out (by kernel_rfl)) (by decide) (fun K hK => ?_)
                                         refine Kd.R_append_step (Kd.int .u8) (w0 := w) w.heap.size (by rfl) (.tmp 117) (.tmp 135) 30 5 (.int .u8 0) 1 rfl Try.underlying30 info5 rfl (by decide) (by omega) u474004 x474004_5 (Go.bits .xor .u8 (rd ((rd_T52 t464 x83_3).f4) x113_5) (rd ((rd_T52 t468 x83_3).f4) x113_5)) [.int .u8 (Go.bits .xor .u8 (rd ((rd_T52 t464 x83_3).f4) x113_5) (rd ((rd_T52 t468 x83_3).f4) x113_5))] (fun _ => True) (fun _ => False) rfl rfl ?aP (fun _ hk => hk.elim) ?aF ?aO ?aB ?aS ?aL ?_
                                         (case aP => exact rfl)
                                         (case aB => exact (by repeat (first | (with_reducible first | exact HB.out | apply below_alloc | apply pw_below_drewN | apply below_drew1 | refine below_set ?_ GE473.out) | exact HB.out)))
                                         (case aF => exact (fun _ _ => trivial))
                                         (case aO => exact (by (with_reducible repeat (first | apply Kd.R_alloc | apply Kd.R_drewN | apply Kd.R_drew)); exact HO_474004.out))
                                         (case aS => exact (below_size (by repeat (first | (with_reducible first | exact HB.out | apply below_alloc | apply pw_below_drewN | apply below_drew1 | refine below_set ?_ GE473.out) | exact HB.out))))
                                         (case aL => have := LMc44.out; omega)
                                         intro v481 w47 ho hb hg hat
                                         rw [← Ny480.out] at ho
                                         have n0_ := Aside0.mk (Kd.S_after (ok := (fun k_ => some k_ ≠ (.slice (some ad478) t468.length co46 : Value).ownBlock ∧ some k_ ≠ (u17 : Value).ownBlock ∧ k_ ≠ gb473)) (by (with_reducible repeat (first | apply Kd.S_alloc | apply Kd.S_drewN | apply Kd.S_drew)); exact Kd.S_mono HO_13.out (fun _ hk => ⟨⟨hk.1, ⟨hk.2.1, hk.2.2.2⟩⟩, hk.2.2.1⟩)) hg hat)
                                         have n1_ := Aside0.mk (Kd.S_after (ok := (fun k_ => some k_ ≠ (.slice (some ad472) t464.length co26 : Value).ownBlock ∧ some k_ ≠ (u17 : Value).ownBlock ∧ k_ ≠ gb473)) (by (with_reducible repeat (first | apply Kd.S_alloc | apply Kd.S_drewN | apply Kd.S_drew)); exact Kd.S_mono HO_15.out (fun _ hk => ⟨⟨hk.1, ⟨hk.2.1, hk.2.2.2⟩⟩, hk.2.2.1⟩)) hg hat)
                                         have n2_ := Aside0.mk (Kd.S_after (ok := (fun k_ => some k_ ≠ (.slice (some ad472) t464.length co26 : Value).ownBlock ∧ some k_ ≠ (.slice (some ad478) t468.length co46 : Value).ownBlock ∧ k_ ≠ gb473)) (by (with_reducible repeat (first | apply Kd.S_alloc | apply Kd.S_drewN | apply Kd.S_drew)); exact Kd.S_mono HO_17.out (fun _ hk => ⟨⟨hk.1, ⟨hk.2.1, hk.2.2.2⟩⟩, hk.2.2.1⟩)) hg hat)
                                         have n3_ := Aside0.mk (blk_grown (g := gb473) (o := .cells #[.int .i64 ((rd_T52 t464 x83_3).f0), .int .i64 ((rd_T52 t464 x83_3).f1), .int .i64 ((rd_T52 t464 x83_3).f2), .int .i64 ((rd_T52 t464 x83_3).f3), u474004] 52 (0, 0)) (by (with_reducible repeat (first | refine blk_drewN ?_ _ | refine blk_drew ?_ | refine blk_alloc ?_ _)); exact BK473.out) hg (Kd.R_ne HO_474004.out BK473.out (by decide)))
                                         have n4_ := Aside0.mk (Kd.R_after (ok := (fun k_ => some k_ ≠ (.slice (some ad472) t464.length co26 : Value).ownBlock ∧ some k_ ≠ (.slice (some ad478) t468.length co46 : Value).ownBlock ∧ some k_ ≠ (u17 : Value).ownBlock ∧ k_ ≠ gb473)) (by (with_reducible repeat (first | apply Kd.R_alloc | apply Kd.R_drewN | apply Kd.R_drew)); exact Kd.R_mono HL476_4.out (fun _ hk => ⟨⟨hk.2, ⟨hk.1.1, ⟨hk.1.2.1, hk.1.2.2.2⟩⟩⟩, hk.1.2.2.1⟩)) hg hat)
                                         have n5_ := Aside0.mk (Kd.R_after (ok := (fun k_ => some k_ ≠ (.slice (some ad472) t464.length co26 : Value).ownBlock ∧ some k_ ≠ (.slice (some ad478) t468.length co46 : Value).ownBlock ∧ some k_ ≠ (u17 : Value).ownBlock ∧ k_ ≠ gb473)) (by (with_reducible repeat (first | apply Kd.R_alloc | apply Kd.R_drewN | apply Kd.R_drew)); exact Kd.R_mono HL478_4.out (fun _ hk => ⟨⟨hk.1.1, ⟨hk.2, ⟨hk.1.2.1, hk.1.2.2.2⟩⟩⟩, hk.1.2.2.1⟩)) hg hat)
                                         have n6_ := Aside0.mk (hb)
                                         have n7_ := Aside0.mk (ho)
                                         clear HO_13
                                         clear HO_15
                                         clear HO_17
                                         clear BK473
                                         clear HL476_4
                                         clear HL478_4
                                         clear HB
                                         clear HO_474004
                                         have HO_13 := n0_
                                         have HO_15 := n1_
                                         have HO_17 := n2_
                                         have BK473 := n3_
                                         have HL476_4 := n4_
                                         have HL478_4 := n5_
                                         have HB := n6_
                                         have HO482 := n7_
                                         clear n0_ n1_ n2_ n3_ n4_ n5_ n6_ n7_
                                         clear ho hb hg hat
                                         obtain ⟨Ao48, co48, eo48⟩ := Kd.R_slice HO482.out
                                         (first | subst eo48 | (injection eo48 with f1_ f2_ f3_; have f4_ := f1_.symm; have f5_ := f3_.symm; clear f1_ f2_ f3_; subst f4_; subst f5_))
                                         refine hK.out _ _ ?_
                                         clear hK K
                                         refine norm_ (a' := ?_) ?_ ?_
                                         rotate_left
                                         · show Act.put _ (some 136) _ = _
                                           simp only [Act.put, List.setIfInBounds_toArray, List.set_cons_zero, List.set_cons_succ, i64_w, i32_w]
                                           rfl
                                         refine pure_ (i := 21) (N := some 137) (v := ?_) (a' := ?_) #[true, true, true, true, true, true, true, true, true, true, true, true, true, true, true, true, true, true, true, true, true, true, false] rfl rfl (any_of HT_.out (by kernel_rfl)) (fun _ _ _ h => h) (Or.inl ⟨by rfl, ?_⟩) ?_ ?_
                                         rotate_left
                                         · intro w'
                                           go_simp
                                           with_reducible rfl
                                         rotate_left
                                         · simp only [Act.put, List.setIfInBounds_toArray, List.set_cons_zero, List.set_cons_succ, i64_w, i32_w]
                                           rfl
                                         refine last_ (i := 22) (N := none) #[true, true, true, true, true, true, true, true, true, true, true, true, true, true, true, true, true, true, true, true, true, true, true] rfl rfl (one_of HT_.out (by kernel_rfl)) (by decide) (fun K hK => ?_)
                                         have hs49 : w47.cell? ⟨gb473, 4, none⟩ = some (u474004) := (blk_cell BK473.out 4).trans rfl
                                         have hfs49 := blk_frozen BK473.out 4
                                         refine skip_ (w1 := ?_) (by rfl) rfl ?_ ?_
                                         rotate_left
                                         · go_simp
                                           rfl
                                         refine hK.out _ _ ?_
                                         clear hK K
                                         refine done_ (done_of HT_.out (by kernel_rfl)) ?_
                                         try go_wp2
                                         go_roundg k5
                                         case measure => have := HJ8.out; have := HJ16.out; have := HK3.out; have := HJ29.out; have := HK5.out; omega
                                         case rel => exact ⟨(wrap64 (x113_5 + 1)), (y480), (.slice Ao48 y480.length co48), (by first | rfl | (simp; done) | (simp [*]; done)), H', ⟨by have := HJ8.out; have := HJ16.out; have := HK3.out; have := HJ29.out; have := HK5.out; omega⟩, ⟨by (with_reducible repeat (first | apply Kd.S_alloc | apply Kd.S_drewN | apply Kd.S_drew)); exact Kd.S_mono (Kd.S_far (p := ⟨gb473, 4, none⟩) (Kd.S_mono HO_13.out (fun k_ hk => (⟨hk, hk.1.2.2⟩ : _ ∧ k_ ≠ gb473))) (fun _ hk => hk.2) (.slice Ao48 y480.length co48)) (fun _ hk => ⟨hk.1.1.1, ⟨hk.1.1.2.1, ⟨hk.1.2, hk.1.1.2.2⟩⟩⟩)⟩, ⟨by (with_reducible repeat (first | apply Kd.S_alloc | apply Kd.S_drewN | apply Kd.S_drew)); exact Kd.S_mono (Kd.S_far (p := ⟨gb473, 4, none⟩) (Kd.S_mono HO_15.out (fun k_ hk => (⟨hk, hk.1.2.2⟩ : _ ∧ k_ ≠ gb473))) (fun _ hk => hk.2) (.slice Ao48 y480.length co48)) (fun _ hk => ⟨hk.1.1.1, ⟨hk.1.1.2.1, ⟨hk.1.2, hk.1.1.2.2⟩⟩⟩)⟩, ⟨by (with_reducible repeat (first | apply Kd.S_alloc | apply Kd.S_drewN | apply Kd.S_drew)); exact Kd.S_mono (Kd.S_far (p := ⟨gb473, 4, none⟩) (Kd.S_mono HO_17.out (fun k_ hk => (⟨hk, hk.1.2.2⟩ : _ ∧ k_ ≠ gb473))) (fun _ hk => hk.2) (.slice Ao48 y480.length co48)) (fun _ hk => ⟨hk.1.1.1, ⟨hk.1.1.2.1, ⟨hk.1.2, hk.1.1.2.2⟩⟩⟩)⟩, ⟨by (with_reducible repeat (first | apply Kd.R_alloc | apply Kd.R_drewN | apply Kd.R_drew)); exact Kd.R_mono (Kd.R_far (p := ⟨gb473, 4, none⟩) (Kd.R_types HO482.out BK473.out (by decide)) (fun _ hk => hk.2) (.slice Ao48 y480.length co48)) (fun _ hk => trivial)⟩, ⟨by (with_reducible repeat (first | refine blk_drewN ?_ _ | refine blk_drew ?_ | refine blk_alloc ?_ _)); refine blk_put (cs := #[.int .i64 ((rd_T52 t464 x83_3).f0), .int .i64 ((rd_T52 t464 x83_3).f1), .int .i64 ((rd_T52 t464 x83_3).f2), .int .i64 ((rd_T52 t464 x83_3).f3), u474004]) ?_ 4 _ rfl; (with_reducible repeat (first | refine blk_drewN ?_ _ | refine blk_drew ?_ | refine blk_alloc ?_ _)); exact BK473.out⟩, ⟨by repeat (first | (with_reducible first | exact HB.out | apply below_alloc | apply pw_below_drewN | apply below_drew1 | refine below_set ?_ GE473.out) | exact HB.out)⟩⟩
                                       · rw [if_neg c44] at H
                                         exact absurd H (by simp)
                                     · rw [if_neg c43] at H
                                       exact absurd H (by simp)
                                   · rw [if_neg c42] at H
                                     exact absurd H (by simp)
                                 · rw [if_neg c41] at H
                                   exact absurd H (by simp)
                               · rw [if_neg c40] at H
                                 exact absurd H (by simp)
                             · rw [if_neg c39] at H
                               exact absurd H (by simp)
                           · rw [if_neg c38] at H
                             exact absurd H (by simp)
                         · rw [if_neg c37] at H
                           have c37b0 : decide (x113_5 < (l0.length : Int)) = false := decide_eq_false c37
                           clear c37
                           by_cases c50 : x17_3.length < 2513169434916
                           · rw [if_pos c50] at H
                             have LMc50 := Aside0.mk c50
                             clear c50
                             obtain ⟨y483, hy483⟩ : ∃ y_ : List (S52), y_ = (x17_3 ++ [(⟨((rd_T52 t464 x83_3).f0), ((rd_T52 t464 x83_3).f1), ((rd_T52 t464 x83_3).f2), ((rd_T52 t464 x83_3).f3), x474004_5⟩ : S52)]) := ⟨_, rfl⟩
                             replace H : (testamurlaw08_SharesSum.l0 k5 l0 l1 t464 t468 y483 (t464.length : Int) (wrap64 (x83_3 + 1))) = some r := by first | (rw [hy483]; with_reducible exact H) | (have H2_ := (Option.bind_some _ _).symm.trans H; rw [hy483]; with_reducible exact H2_) | (have H2_ := (Option.bind_some _ _).symm.trans H; with_reducible exact H2_) | with_reducible exact H | (rw [hy483]; exact H) | exact H
                             have Ny483 := Aside0.mk hy483
                             clear hy483
                             have H' := Aside0.mk H
                             clear H
                             have hcz51_0 : wr.cell? ⟨gb473, 0, none⟩ = some (.int .i64 ((rd_T52 t464 x83_3).f0)) := (blk_cell BK473.out 0).trans rfl
                             have hcz51_1 : wr.cell? ⟨gb473, 1, none⟩ = some (.int .i64 ((rd_T52 t464 x83_3).f1)) := (blk_cell BK473.out 1).trans rfl
                             have hcz51_2 : wr.cell? ⟨gb473, 2, none⟩ = some (.int .i64 ((rd_T52 t464 x83_3).f2)) := (blk_cell BK473.out 2).trans rfl
                             have hcz51_3 : wr.cell? ⟨gb473, 3, none⟩ = some (.int .i64 ((rd_T52 t464 x83_3).f3)) := (blk_cell BK473.out 3).trans rfl
                             have hcz51_4 : wr.cell? ⟨gb473, 4, none⟩ = some (u474004) := (blk_cell BK473.out 4).trans rfl
                             have hfz51_0 := blk_frozen BK473.out 0
                             have hfz51_1 := blk_frozen BK473.out 1
                             have hfz51_2 := blk_frozen BK473.out 2
                             have hfz51_3 := blk_frozen BK473.out 3
                             have hfz51_4 := blk_frozen BK473.out 4
                             obtain ⟨Ao53, co53, eo53⟩ := Kd.R_slice HO_474004.out
                             subst eo53
                             go_wp2_with (first | ((with_reducible refine gate_builtin (b := .append) (xs := #[.tmp 139, .tmp 141]) rfl ?_); (try (refine gate_guard (by rfl) ?_; dsimp only)); at_builtin; refine Kd.S_append k52 (w0 := w) w.heap.size rfl (.tmp 139) (.tmp 141) 37 52 (.agg #[(.int .i64 0), (.int .i64 0), (.int .i64 0), (.int .i64 0), (.slice none 0 0)]) 56 rfl Try.underlying37 info52 rfl (by decide) (by omega) u17 x17_3 (⟨((rd_T52 t464 x83_3).f0), ((rd_T52 t464 x83_3).f1), ((rd_T52 t464 x83_3).f2), ((rd_T52 t464 x83_3).f3), x474004_5⟩ : S52) [.int .i64 ((rd_T52 t464 x83_3).f0), .int .i64 ((rd_T52 t464 x83_3).f1), .int .i64 ((rd_T52 t464 x83_3).f2), .int .i64 ((rd_T52 t464 x83_3).f3), .slice Ao53 x474004_5.length co53] (fun k_ => some k_ ≠ (.slice (some ad472) t464.length co26 : Value).ownBlock ∧ some k_ ≠ (v470 : Value).ownBlock ∧ k_ ≠ gb473) (fun k_ => some k_ = (.slice Ao53 x474004_5.length co53 : Value).ownBlock) rfl rfl ?aP (fun k_ hk_ => ((Kd.R_mono (ok' := fun k_ => ((fun k_ => some k_ ≠ (.slice (some ad472) t464.length co26 : Value).ownBlock ∧ some k_ ≠ (v470 : Value).ownBlock ∧ k_ ≠ gb473)) k_ ∧ some k_ ≠ (u17 : Value).ownBlock) (Kd.R_types (Kd.R_apart' (Kd.R_apart' (Kd.R_apart' (HO_474004.out) (Kd.S_typed HO_13.out) (by decide)) (Kd.S_typed HO_15.out) (by decide)) (Kd.S_typed HO_17.out) (by decide)) BK473.out (by decide)) (fun k_ hk => ⟨⟨hk.1.1.1.2, ⟨hk.1.1.2, hk.2⟩⟩, hk.1.2⟩))).1 k_ hk_.symm) ?aF ?aO ?aB ?aS ?aL ?_; (case aP => exact k52_mkM _ _ _ (⟨((rd_T52 t464 x83_3).f0), ((rd_T52 t464 x83_3).f1), ((rd_T52 t464 x83_3).f2), ((rd_T52 t464 x83_3).f3), x474004_5⟩ : S52) (Kd.R_mono (Kd.R_tight rfl (Kd.R_mono (ok' := fun k_ => ((fun k_ => some k_ ≠ (.slice (some ad472) t464.length co26 : Value).ownBlock ∧ some k_ ≠ (v470 : Value).ownBlock ∧ k_ ≠ gb473)) k_ ∧ some k_ ≠ (u17 : Value).ownBlock) (Kd.R_types (Kd.R_apart' (Kd.R_apart' (Kd.R_apart' (HO_474004.out) (Kd.S_typed HO_13.out) (by decide)) (Kd.S_typed HO_15.out) (by decide)) (Kd.S_typed HO_17.out) (by decide)) BK473.out (by decide)) (fun k_ hk => ⟨⟨hk.1.1.1.2, ⟨hk.1.1.2, hk.2⟩⟩, hk.1.2⟩))) (fun _ h_ => h_))); (case aB => exact (by repeat (first | (with_reducible first | exact HB.out | apply below_alloc | apply pw_below_drewN | apply below_drew1 | refine below_set ?_ GE473.out) | exact HB.out))); (case aF => exact (fun k_ hk => ⟨Kd.fresh' (Kd.S_lt (by (with_reducible repeat (first | apply Kd.S_alloc | apply Kd.S_drewN | apply Kd.S_drew)); exact HO_13.out)) k_ hk, Kd.fresh' (Kd.S_lt (by (with_reducible repeat (first | apply Kd.S_alloc | apply Kd.S_drewN | apply Kd.S_drew)); exact HO_15.out)) k_ hk, Kd.freshB (g := gb473) (o := .cells #[.int .i64 ((rd_T52 t464 x83_3).f0), .int .i64 ((rd_T52 t464 x83_3).f1), .int .i64 ((rd_T52 t464 x83_3).f2), .int .i64 ((rd_T52 t464 x83_3).f3), .slice Ao53 x474004_5.length co53] 52 (0, 0)) (by (with_reducible repeat (first | refine blk_drewN ?_ _ | refine blk_drew ?_ | refine blk_alloc ?_ _)); exact BK473.out) k_ hk⟩)); (case aO => exact (by (with_reducible repeat (first | apply Kd.S_alloc | apply Kd.S_drewN | apply Kd.S_drew)); exact Kd.S_mono HO_17.out (fun k_ hk => ⟨⟨hk.1, ⟨hk.2.1, hk.2.2.2⟩⟩, fun e_ => hk.2.2.1 e_⟩))); (case aS => exact (below_size (by repeat (first | (with_reducible first | exact HB.out | apply below_alloc | apply pw_below_drewN | apply below_drew1 | refine below_set ?_ GE473.out) | exact HB.out)))); (case aL => have := LMc50.out; omega); intro v484 w52 ho hb hg hat; rw [← Ny483.out] at ho; have n0_ := Aside0.mk (Kd.S_after (ok := (fun k_ => some k_ ≠ (v470 : Value).ownBlock ∧ some k_ ≠ (.slice Ao53 x474004_5.length co53 : Value).ownBlock ∧ k_ ≠ gb473)) (by (with_reducible repeat (first | apply Kd.S_alloc | apply Kd.S_drewN | apply Kd.S_drew)); exact Kd.S_mono HO_13.out (fun _ hk => ⟨⟨hk.1, ⟨hk.2.2.1, hk.2.2.2⟩⟩, hk.2.1⟩)) hg hat); have n1_ := Aside0.mk (Kd.S_after (ok := (fun k_ => some k_ ≠ (.slice (some ad472) t464.length co26 : Value).ownBlock ∧ some k_ ≠ (.slice Ao53 x474004_5.length co53 : Value).ownBlock ∧ k_ ≠ gb473)) (by (with_reducible repeat (first | apply Kd.S_alloc | apply Kd.S_drewN | apply Kd.S_drew)); exact Kd.S_mono HO_15.out (fun _ hk => ⟨⟨hk.1, ⟨hk.2.2.1, hk.2.2.2⟩⟩, hk.2.1⟩)) hg hat); have n2_ := Aside0.mk (blk_grown (g := gb473) (o := .cells #[.int .i64 ((rd_T52 t464 x83_3).f0), .int .i64 ((rd_T52 t464 x83_3).f1), .int .i64 ((rd_T52 t464 x83_3).f2), .int .i64 ((rd_T52 t464 x83_3).f3), .slice Ao53 x474004_5.length co53] 52 (0, 0)) (by (with_reducible repeat (first | refine blk_drewN ?_ _ | refine blk_drew ?_ | refine blk_alloc ?_ _)); exact BK473.out) hg (Kd.S_away HO_17.out (fun _ hk => hk.2.2.2))); have n3_ := Aside0.mk (hb); have n4_ := Aside0.mk (ho); clear HO_13; clear HO_15; clear BK473; clear HB; clear HO_17; clear HO_474004; have HO_13 := n0_; have HO_15 := n1_; have BK473 := n2_; have HB := n3_; have HO485 := n4_; clear n0_ n1_ n2_ n3_ n4_; clear ho hb hg hat))
                             go_roundg k5
                             case measure => have := HJ8.out; have := HJ16.out; have := HK3.out; have := HJ29.out; have := HK5.out; omega
                             case rel => exact ⟨(y483), (wrap64 (x83_3 + 1)), (by first | rfl | (simp; done) | (simp [*]; done)), H', ⟨by have := HJ8.out; have := HJ16.out; have := HK3.out; have := HJ29.out; have := HK5.out; omega⟩, ⟨by (with_reducible repeat (first | apply Kd.S_alloc | apply Kd.S_drewN | apply Kd.S_drew)); exact Kd.S_mono HO_13.out (fun _ hk => ⟨hk.1.1, hk.2⟩)⟩, ⟨by (with_reducible repeat (first | apply Kd.S_alloc | apply Kd.S_drewN | apply Kd.S_drew)); exact Kd.S_mono HO_15.out (fun _ hk => ⟨hk.1.1, hk.2⟩)⟩, ⟨by (with_reducible repeat (first | apply Kd.S_alloc | apply Kd.S_drewN | apply Kd.S_drew)); exact Kd.S_mono HO485.out (fun _ hk => ⟨hk.1, hk.2.1⟩)⟩, ⟨by repeat (first | (with_reducible first | exact HB.out | apply below_alloc | apply pw_below_drewN | apply below_drew1 | refine below_set ?_ GE473.out) | exact HB.out)⟩⟩
                           · rw [if_neg c50] at H
                             exact absurd H (by simp)
                 · rw [if_neg c29] at H
                   exact absurd H (by simp)
               · rw [if_neg c28] at H
                 exact absurd H (by simp)
             · rw [if_neg c27] at H
               have c27b0 : decide (x83_3 < (t464.length : Int)) = false := decide_eq_false c27
               clear c27
               replace H := Option.bind_eq_some_iff.mp H
               obtain ⟨⟨t486, t487⟩, A540, H⟩ := H
               replace H : (if t487 = 0 then (testamurlaw08_SharesSum.j5 k3 l0 l1 t486 ((t486.length : Int) != (l0.length : Int))) else (testamurlaw08_SharesSum.j5 k3 l0 l1 t486 true)) = some r := H
               have A54 := Aside0.mk A540
               clear A540
               have HC55 := Aside0.mk H
               clear H
               obtain ⟨Ao56, co56, eo56⟩ := Kd.S_slice HO_17.out
               subst eo56
               go_upto_region 25 with (first | ((with_reducible refine gate_callee (f := 30) rfl ?_); refine goesL_ (some 146) rfl rfl Try.func30 (by kernel_rfl) rfl #[.slice Ao56 x17_3.length co56] rfl (by (try simp only [List.map_toArray, List.map_cons, List.map_nil]); first | done | rfl | (simp only [List.length_drop, List.length_take]; rfl)) ?_; (with_reducible refine (shares_Join.calls _ _ x17_3 t486 t487 _ ?side1 ?side2 A54.out).mono ?_); (case side1 => repeat (first | exact (Kd.S_reads' HO_17.out).2.2 | (with_reducible refine Kd.C_alloc ?_ _) | (with_reducible refine Kd.C_drewN ?_ _) | (with_reducible refine Kd.C_drew ?_))); (case side2 => exact (Kd.S_reads' HO_17.out).2.1); rintro e w57 ⟨v488, rfl, ho0, hb⟩; refine ⟨_, rfl, ?_⟩; have n0_ := Aside0.mk (Kd.S_elder' (by (with_reducible repeat (first | apply Kd.S_alloc | apply Kd.S_drewN | apply Kd.S_drew)); exact HO_13.out) (Kd.R_base ho0) hb); have n1_ := Aside0.mk (Kd.S_elder' (by (with_reducible repeat (first | apply Kd.S_alloc | apply Kd.S_drewN | apply Kd.S_drew)); exact HO_15.out) (Kd.R_base ho0) hb); have n2_ := Aside0.mk (Kd.S_elder' (by (with_reducible repeat (first | apply Kd.S_alloc | apply Kd.S_drewN | apply Kd.S_drew)); exact HO_17.out) (Kd.R_base ho0) hb); have n3_ := Aside0.mk (Kd.R_lower ho0 (below_size (by repeat (first | (with_reducible first | exact HB.out | apply below_alloc | apply pw_below_drewN | apply below_drew1) | exact HB.out)))); have n4_ := Aside0.mk (below_step (by repeat (first | (with_reducible first | exact HB.out | apply below_alloc | apply pw_below_drewN | apply below_drew1) | exact HB.out)) hb); clear HO_13; clear HO_15; clear HO_17; clear HB; have HO_13 := n0_; have HO_15 := n1_; have HO_17 := n2_; have HO489 := n3_; have HB := n4_; clear n0_ n1_ n2_ n3_ n4_; (try clear hb); (try clear hb2); (try clear hk); (try clear hi); (try clear ho0)))
               (try simp only [Act.put, List.setIfInBounds_toArray, List.set_cons_zero, List.set_cons_succ])
               go_cut [157] (fun v157 wc => ∃ (kq : Nat) (x157_54 : Bool), v157 = .bool x157_54 ∧ Aside0 (testamurlaw08_SharesSum.j5 kq l0 l1 t486 x157_54 = some r) ∧ Aside0 (kq ≤ k3) ∧ Aside0 (Kd.R (Kd.int .u8) 5 wc w.heap.size (fun _ => True) v488 t486) ∧ Aside0 (Below w.heap.size w wc))
               case first =>
                have H := HC55.out
                clear HC55
                by_cases c58 : t487 = 0
                · rw [if_pos c58] at H
                  have c58b0 : (t487 == 0) = true := beq_iff_eq.mpr c58
                  have c58b1 : (t487 != 0) = false := bne_eq_false_iff_eq.mpr c58
                  clear c58
                  (first | rw [c58b0] | (simp only [i64_w, i32_w]; rw [c58b0]) | skip)
                  have H' := Aside0.mk H
                  clear H
                  obtain ⟨Ao59, co59, eo59⟩ := Kd.R_slice HO489.out
                  subst eo59
                  go_wp2
                  go_meet
                  case rel => exact ⟨_, (((t486.length : Int) != (l0.length : Int))), (by first | rfl | (simp; done) | (simp [*]; done)), H', ⟨by have := HJ8.out; have := HJ16.out; have := HK3.out; first | omega | exact Nat.le_refl _⟩, ⟨by (with_reducible repeat (first | apply Kd.R_alloc | apply Kd.R_drewN | apply Kd.R_drew)); exact HO489.out⟩, ⟨by repeat (first | (with_reducible first | exact HB.out | apply below_alloc | apply pw_below_drewN | apply below_drew1) | exact HB.out)⟩⟩
                · rw [if_neg c58] at H
                  have c58b0 : (t487 == 0) = false := beq_eq_false_iff_ne.mpr c58
                  have c58b1 : (t487 != 0) = true := bne_iff_ne.mpr c58
                  (first | rw [c58b0] | (simp only [i64_w, i32_w]; rw [c58b0]) | skip)
                  have H' := Aside0.mk H
                  clear H
                  go_wp2
                  go_meet
                  case rel => exact ⟨_, (true), (by first | rfl | (simp; done) | (simp [*]; done)), H', ⟨by have := HJ8.out; have := HJ16.out; have := HK3.out; first | omega | exact Nat.le_refl _⟩, ⟨by (with_reducible repeat (first | apply Kd.R_alloc | apply Kd.R_drewN | apply Kd.R_drew)); exact HO489.out⟩, ⟨by repeat (first | (with_reducible first | exact HB.out | apply below_alloc | apply pw_below_drewN | apply below_drew1) | exact HB.out)⟩⟩
               case rest =>
                clear HC55
                try clear c1
                try clear c2
                try clear p2
                try clear c3
                try clear c4
                try clear p4
                try clear q4
                try clear hx4
                try clear c5
                try clear p6
                try clear c8
                try clear c11
                try clear c11b0
                try clear c11b1
                try clear c12
                try clear c12b0
                try clear c12b1
                try clear c12b2
                try clear c13
                try clear c13b0
                try clear c13b1
                try clear c14
                try clear c20
                try clear c20b0
                try clear c20b1
                try clear c21
                try clear c21b0
                try clear c21b1
                try clear c23
                try clear c24
                try clear c25
                try clear c25b0
                try clear c25b1
                try clear c27
                try clear c27b0
                try clear c28
                try clear c28b0
                try clear c29
                try clear c29b0
                try clear c30
                try clear c33
                try clear c33b0
                try clear c33b1
                try clear c33b2
                try clear c34
                try clear c34b0
                try clear c36
                try clear c37
                try clear c37b0
                try clear c38
                try clear c38b0
                try clear c39
                try clear c39b0
                try clear c40
                try clear c40b0
                try clear c41
                try clear c41b0
                try clear c42
                try clear c42b0
                try clear c43
                try clear c43b0
                try clear c44
                try clear c47
                try clear p47
                try clear q47
                try clear hx47
                try clear c50
                try clear c58
                try clear c58b0
                try clear c58b1
                try clear hcz32_0
                try clear hcz32_1
                try clear hcz32_2
                try clear hcz32_3
                try clear hcz32_4
                try clear hcz51_0
                try clear hcz51_1
                try clear hcz51_2
                try clear hcz51_3
                try clear hcz51_4
                try clear hfz32_0
                try clear hfz32_1
                try clear hfz32_2
                try clear hfz32_3
                try clear hfz32_4
                try clear hfz51_0
                try clear hfz51_1
                try clear hfz51_2
                try clear hfz51_3
                try clear hfz51_4
                try clear hx472_0
                try clear hx472_1
                try clear hx472_2
                try clear hx472_3
                try clear hx472_4
                try clear hx474_0
                try clear hx474_1
                try clear hx474_2
                try clear hx474_3
                try clear hx474_4
                try clear hx475_0
                try clear hx475_1
                try clear hx475_2
                try clear hx475_3
                try clear hx475_4
                try clear hx476_0
                try clear hx476_1
                try clear hx476_2
                try clear hx476_3
                try clear hx476_4
                try clear hx477_0
                try clear hx478_0
                try clear hx478_1
                try clear hx478_2
                try clear hx478_3
                try clear hx478_4
                try clear hx479_0
                try clear p2
                try clear p4
                try clear p472
                try clear p474
                try clear p475
                try clear p476
                try clear p477
                try clear p478
                try clear p479
                try clear q4
                try clear q472
                try clear q474
                try clear q475
                try clear q476
                try clear q477
                try clear q478
                try clear q479
                obtain ⟨kq, x157_54, rfl, HA, HJ54, HO_21, HB⟩ := hcut
                cases kq with
                | zero => exact absurd HA.out (by simp [testamurlaw08_SharesSum.j5])
                | succ kj54 =>
                 have H := HA.out
                 clear HA
                 simp only [testamurlaw08_SharesSum.j5] at H
                 by_cases c60 : x157_54 = true
                 · subst c60
                   have H1 : (some false) = some r := by rw [if_pos rfl] at H; exact H
                   clear H
                   have H := H1
                   clear H1
                   obtain rfl := Option.some.inj H
                   go_wp2
                   go_ret
                   exact ⟨by first | rfl | (simp [errW_none, errW_some] <;> rfl) | (simp [*, errW_none, errW_some] <;> rfl), by repeat (first | (with_reducible first | exact HB.out | apply below_alloc | apply pw_below_drewN | apply below_drew1) | exact HB.out)⟩
                 · replace c60 := Bool.eq_false_iff.mpr c60
                   subst c60
                   have H1 : (testamurlaw08_SharesSum.l2 kj54 l0 l1 t486 (l0.length : Int) 0) = some r := by rw [if_neg (show ¬ (false = true) by decide)] at H; exact H
                   clear H
                   have H := H1
                   clear H1
                   have H' := Aside0.mk H
                   clear H
                   go_wp2
                   go_loopg [160] kj54 (fun kq v160 w' => ∃ (x160_5 : Int), v160 = .int .i64 x160_5 ∧ Aside0 (testamurlaw08_SharesSum.l2 kq l0 l1 t486 (l0.length : Int) x160_5 = some r) ∧ Aside0 (kq ≤ kj54) ∧ Aside0 (Kd.R (Kd.int .u8) 5 w' w.heap.size (fun _ => True) v488 t486) ∧ Aside0 (Below w.heap.size w w'))
                   case atStart => exact ⟨(0), (by first | rfl | (simp; done) | (simp [*]; done)), H', ⟨Nat.le_refl _⟩, ⟨by (with_reducible repeat (first | apply Kd.R_alloc | apply Kd.R_drewN | apply Kd.R_drew)); exact HO_21.out⟩, ⟨by repeat (first | (with_reducible first | exact HB.out | apply below_alloc | apply pw_below_drewN | apply below_drew1) | exact HB.out)⟩⟩
                   case round =>
                    clear H'
                    try clear c1
                    try clear c2
                    try clear p2
                    try clear c3
                    try clear c4
                    try clear p4
                    try clear q4
                    try clear hx4
                    try clear c5
                    try clear c6
                    try clear p6
                    try clear c8
                    try clear c11
                    try clear c11b0
                    try clear c11b1
                    try clear c12
                    try clear c12b0
                    try clear c12b1
                    try clear c12b2
                    try clear c13
                    try clear c13b0
                    try clear c13b1
                    try clear c14
                    try clear c20
                    try clear c20b0
                    try clear c20b1
                    try clear c21
                    try clear c21b0
                    try clear c21b1
                    try clear c23
                    try clear c24
                    try clear c25
                    try clear c25b0
                    try clear c25b1
                    try clear c27
                    try clear c27b0
                    try clear c28
                    try clear c28b0
                    try clear c29
                    try clear c29b0
                    try clear c30
                    try clear c33
                    try clear c33b0
                    try clear c33b1
                    try clear c33b2
                    try clear c34
                    try clear c34b0
                    try clear c36
                    try clear c37
                    try clear c37b0
                    try clear c38
                    try clear c38b0
                    try clear c39
                    try clear c39b0
                    try clear c40
                    try clear c40b0
                    try clear c41
                    try clear c41b0
                    try clear c42
                    try clear c42b0
                    try clear c43
                    try clear c43b0
                    try clear c44
                    try clear c47
                    try clear p47
                    try clear q47
                    try clear hx47
                    try clear c50
                    try clear c58
                    try clear c58b0
                    try clear c58b1
                    try clear c60
                    try clear hcz32_0
                    try clear hcz32_1
                    try clear hcz32_2
                    try clear hcz32_3
                    try clear hcz32_4
                    try clear hcz51_0
                    try clear hcz51_1
                    try clear hcz51_2
                    try clear hcz51_3
                    try clear hcz51_4
                    try clear hfz32_0
                    try clear hfz32_1
                    try clear hfz32_2
                    try clear hfz32_3
                    try clear hfz32_4
                    try clear hfz51_0
                    try clear hfz51_1
                    try clear hfz51_2
                    try clear hfz51_3
                    try clear hfz51_4
                    try clear hx472_0
                    try clear hx472_1
                    try clear hx472_2
                    try clear hx472_3
                    try clear hx472_4
                    try clear hx474_0
                    try clear hx474_1
                    try clear hx474_2
                    try clear hx474_3
                    try clear hx474_4
                    try clear hx475_0
                    try clear hx475_1
                    try clear hx475_2
                    try clear hx475_3
                    try clear hx475_4
                    try clear hx476_0
                    try clear hx476_1
                    try clear hx476_2
                    try clear hx476_3
                    try clear hx476_4
                    try clear hx477_0
                    try clear hx478_0
                    try clear hx478_1
                    try clear hx478_2
                    try clear hx478_3
                    try clear hx478_4
                    try clear hx479_0
                    try clear p2
                    try clear p4
                    try clear p47
                    try clear p472
                    try clear p474
                    try clear p475
                    try clear p476
                    try clear p477
                    try clear p478
                    try clear p479
                    try clear p6
                    try clear q4
                    try clear q47
                    try clear q472
                    try clear q474
                    try clear q475
                    try clear q476
                    try clear q477
                    try clear q478
                    try clear q479
                    obtain ⟨x160_5, rfl, HA, HK5, HO_21, HB⟩ := hrel
                    cases gk with
                    | zero => exact absurd HA.out (by simp [testamurlaw08_SharesSum.l2])
                    | succ k5 =>
                     have H := HA.out
                     clear HA
                     simp only [testamurlaw08_SharesSum.l2] at H
                     by_cases c61 : x160_5 < (l0.length : Int)
                     · rw [if_pos c61] at H
                       have c61b0 : decide (x160_5 < (l0.length : Int)) = true := decide_eq_true c61
                       clear c61
                       by_cases c62 : 0 ≤ x160_5
                       · rw [if_pos c62] at H
                         have c62b0 : decide (0 ≤ x160_5) = true := decide_eq_true c62
                         clear c62
                         by_cases c63 : x160_5 < (t486.length : Int)
                         · rw [if_pos c63] at H
                           have c63b0 : decide (x160_5 < (t486.length : Int)) = true := decide_eq_true c63
                           clear c63
                           by_cases c64 : x160_5 < (l0.length : Int)
                           · rw [if_pos c64] at H
                             have c64b0 : decide (x160_5 < (l0.length : Int)) = true := decide_eq_true c64
                             clear c64
                             by_cases c65 : x160_5 < (l1.length : Int)
                             · rw [if_pos c65] at H
                               have c65b0 : decide (x160_5 < (l1.length : Int)) = true := decide_eq_true c65
                               clear c65
                               by_cases c66 : (rd t486 x160_5) = (Go.bits .xor .u8 (rd l0 x160_5) (rd l1 x160_5))
                               · rw [if_pos c66] at H
                                 have c66b0 : ((rd t486 x160_5) == (Go.bits .xor .u8 (rd l0 x160_5) (rd l1 x160_5))) = true := beq_iff_eq.mpr c66
                                 have c66b1 : ((rd t486 x160_5) != (Go.bits .xor .u8 (rd l0 x160_5) (rd l1 x160_5))) = false := bne_eq_false_iff_eq.mpr c66
                                 clear c66
                                 have H' := Aside0.mk H
                                 clear H
                                 try go_wp2
                                 have n0_ := Aside0.mk (Kd.R_drew HO_21.out)
                                 have n1_ := Aside0.mk (below_drew1 HB.out)
                                 clear HO_21
                                 clear HB
                                 have HO_21 := n0_
                                 have HB := n1_
                                 clear n0_ n1_
                                 obtain ⟨Ao68, co68, eo68⟩ := Kd.R_slice HO_21.out
                                 (first | subst eo68 | (injection eo68 with f1_ f2_ f3_; have f4_ := f1_.symm; have f5_ := f3_.symm; clear f1_ f2_ f3_; subst f4_; subst f5_))
                                 have p490 : 0 ≤ (x160_5 : Int) := of_decide_eq_true (by first | (with_reducible assumption) | assumption)
                                 have q490 : x160_5 < (t486.length : Int) := of_decide_eq_true (by first | (with_reducible assumption) | assumption)
                                 obtain ⟨ad490, e490, hx490_0⟩ := Kd.at_int (Kd.R_reads' HO_21.out).2.2 x160_5 p490 q490
                                 cases e490
                                 replace p490 := eq_true p490
                                 replace q490 := eq_true q490
                                 have p491 : 0 ≤ (x160_5 : Int) := of_decide_eq_true (by first | (with_reducible assumption) | assumption)
                                 have q491 : x160_5 < (l0.length : Int) := of_decide_eq_true (by first | (with_reducible assumption) | assumption)
                                 obtain ⟨ad491, e491, hx491_0⟩ := Kd.at_int HR0.out x160_5 p491 q491
                                 have hw491_0 := hx491_0
                                 cases e491
                                 replace hx491_0 := (HB.out.cell (World.block_lt_of_cell? w _ hx491_0)).trans hx491_0
                                 replace p491 := eq_true p491
                                 replace q491 := eq_true q491
                                 have p492 : 0 ≤ (x160_5 : Int) := of_decide_eq_true (by first | (with_reducible assumption) | assumption)
                                 have q492 : x160_5 < (l1.length : Int) := of_decide_eq_true (by first | (with_reducible assumption) | assumption)
                                 obtain ⟨ad492, e492, hx492_0⟩ := Kd.at_int HR1.out x160_5 p492 q492
                                 have hw492_0 := hx492_0
                                 cases e492
                                 replace hx492_0 := (HB.out.cell (World.block_lt_of_cell? w _ hx492_0)).trans hx492_0
                                 replace p492 := eq_true p492
                                 replace q492 := eq_true q492
                                 refine start_ (n := 14) (S := fun w' => w'.cell? (ad490.add (x160_5).toNat) = some (.int .u8 (rd t486 x160_5)) ∧ w'.cell? (ad491.add (x160_5).toNat) = some (.int .u8 (rd l0 x160_5)) ∧ w'.cell? (ad492.add (x160_5).toNat) = some (.int .u8 (rd l1 x160_5))) (ds := []) #[false, false, false, false, false, false, false, false, false, false, false, false, false, false] (by kernel_rfl) rfl rfl ⟨hx490_0, ((HB.out.cell (World.block_lt_of_cell? w _ hw491_0)).trans hw491_0), ((HB.out.cell (World.block_lt_of_cell? w _ hw492_0)).trans hw492_0)⟩ (fun hHeld => ?_); refine with_tabW testamurlaw08_SharesSum.tab30 testamurlaw08_SharesSum.bits30 (fun HT_ HW_ => ?_)
                                 generalize wr.drew = w67 at HO_21 HB hx490_0 hx491_0 hx492_0 hHeld ⊢
                                 refine pure_ (i := 0) (N := some 163) (v := ?_) (a' := ?_) #[true, false, false, false, false, false, false, false, false, false, false, false, false, false] rfl rfl (any_of HT_.out (by kernel_rfl)) (fun _ _ _ h => h) (Or.inl ⟨by rfl, ?_⟩) ?_ ?_
                                 rotate_left
                                 · intro w'
                                   go_simp
                                   with_reducible rfl
                                 rotate_left
                                 · simp only [Act.put, List.setIfInBounds_toArray, List.set_cons_zero, List.set_cons_succ, i64_w, i32_w]
                                   rfl
                                 refine pure_ (i := 1) (N := some 164) (v := ?_) (a' := ?_) #[true, true, false, false, false, false, false, false, false, false, false, false, false, false] rfl rfl (any_of HT_.out (by kernel_rfl)) (fun _ _ _ h => h) (Or.inl ⟨by rfl, ?_⟩) ?_ ?_
                                 rotate_left
                                 · intro w'
                                   go_simp
                                   with_reducible rfl
                                 rotate_left
                                 · simp only [Act.put, List.setIfInBounds_toArray, List.set_cons_zero, List.set_cons_succ, i64_w, i32_w]
                                   rfl
                                 refine pure_ (i := 2) (N := some 165) (v := ?_) (a' := ?_) #[true, true, true, false, false, false, false, false, false, false, false, false, false, false] rfl rfl (any_of HT_.out (by kernel_rfl)) (fun _ _ _ h => h) (Or.inl ⟨by rfl, ?_⟩) ?_ ?_
                                 rotate_left
                                 · intro w'
                                   go_simp
                                   with_reducible rfl
                                 rotate_left
                                 · simp only [Act.put, List.setIfInBounds_toArray, List.set_cons_zero, List.set_cons_succ, i64_w, i32_w]
                                   rfl
                                 refine pure_ (i := 4) (N := some 167) (v := ?_) (a' := ?_) #[true, true, true, false, true, false, false, false, false, false, false, false, false, false] rfl rfl (any_of HT_.out (by kernel_rfl)) (fun _ _ _ h => h) (Or.inl ⟨by rfl, ?_⟩) ?_ ?_
                                 rotate_left
                                 · intro w'
                                   go_simp
                                   with_reducible rfl
                                 rotate_left
                                 · simp only [Act.put, List.setIfInBounds_toArray, List.set_cons_zero, List.set_cons_succ, i64_w, i32_w]
                                   rfl
                                 refine pure_ (i := 5) (N := some 168) (v := ?_) (a' := ?_) #[true, true, true, false, true, true, false, false, false, false, false, false, false, false] rfl rfl (any_of HT_.out (by kernel_rfl)) (fun _ _ _ h => h) (Or.inl ⟨by rfl, ?_⟩) ?_ ?_
                                 rotate_left
                                 · intro w'
                                   go_simp
                                   with_reducible rfl
                                 rotate_left
                                 · simp only [Act.put, List.setIfInBounds_toArray, List.set_cons_zero, List.set_cons_succ, i64_w, i32_w]
                                   rfl
                                 refine pure_ (i := 6) (N := some 169) (v := ?_) (a' := ?_) #[true, true, true, false, true, true, true, false, false, false, false, false, false, false] rfl rfl (any_of HT_.out (by kernel_rfl)) (fun _ _ _ h => h) (Or.inl ⟨by rfl, ?_⟩) ?_ ?_
                                 rotate_left
                                 · intro w'
                                   go_simp
                                   with_reducible rfl
                                 rotate_left
                                 · simp only [Act.put, List.setIfInBounds_toArray, List.set_cons_zero, List.set_cons_succ, i64_w, i32_w]
                                   rfl
                                 refine pure_ (i := 8) (N := some 171) (v := ?_) (a' := ?_) #[true, true, true, false, true, true, true, false, true, false, false, false, false, false] rfl rfl (any_of HT_.out (by kernel_rfl)) (fun _ _ _ h => h) (Or.inl ⟨by rfl, ?_⟩) ?_ ?_
                                 rotate_left
                                 · intro w'
                                   go_simp
                                   with_reducible rfl
                                 rotate_left
                                 · simp only [Act.put, List.setIfInBounds_toArray, List.set_cons_zero, List.set_cons_succ, i64_w, i32_w]
                                   rfl
                                 refine pure_ (i := 9) (N := some 172) (v := ?_) (a' := ?_) #[true, true, true, false, true, true, true, false, true, true, false, false, false, false] rfl rfl (any_of HT_.out (by kernel_rfl)) (fun _ _ _ h => h) (Or.inl ⟨by rfl, ?_⟩) ?_ ?_
                                 rotate_left
                                 · intro w'
                                   go_simp
                                   with_reducible rfl
                                 rotate_left
                                 · simp only [Act.put, List.setIfInBounds_toArray, List.set_cons_zero, List.set_cons_succ, i64_w, i32_w]
                                   rfl
                                 refine pure_ (i := 10) (N := some 173) (v := ?_) (a' := ?_) #[true, true, true, false, true, true, true, false, true, true, true, false, false, false] rfl rfl (any_of HT_.out (by kernel_rfl)) (fun _ _ _ h => h) (Or.inl ⟨by rfl, ?_⟩) ?_ ?_
                                 rotate_left
                                 · intro w'
                                   go_simp
                                   with_reducible rfl
                                 rotate_left
                                 · simp only [Act.put, List.setIfInBounds_toArray, List.set_cons_zero, List.set_cons_succ, i64_w, i32_w]
                                   rfl
                                 refine take_ (i := 3) (N := some 166) (v := ?_) (a' := ?_) #[true, true, true, true, true, true, true, false, true, true, true, false, false, false] rfl rfl (take_ofW HT_.out HW_.out (by kernel_rfl)) (fun _ _ _ h => h) (Or.inl ⟨by rfl, ?_⟩) hHeld ?_ ?_
                                 rotate_left
                                 · rintro w' ⟨s0, s1, s2⟩
                                   go_simp
                                   with_reducible rfl
                                 rotate_left
                                 · simp only [Act.put, List.setIfInBounds_toArray, List.set_cons_zero, List.set_cons_succ, i64_w, i32_w]
                                   rfl
                                 refine take_ (i := 7) (N := some 170) (v := ?_) (a' := ?_) #[true, true, true, true, true, true, true, true, true, true, true, false, false, false] rfl rfl (take_ofW HT_.out HW_.out (by kernel_rfl)) (fun _ _ _ h => h) (Or.inl ⟨by rfl, ?_⟩) hHeld ?_ ?_
                                 rotate_left
                                 · rintro w' ⟨s0, s1, s2⟩
                                   go_simp
                                   with_reducible rfl
                                 rotate_left
                                 · simp only [Act.put, List.setIfInBounds_toArray, List.set_cons_zero, List.set_cons_succ, i64_w, i32_w]
                                   rfl
                                 refine take_ (i := 11) (N := some 174) (v := ?_) (a' := ?_) #[true, true, true, true, true, true, true, true, true, true, true, true, false, false] rfl rfl (take_ofW HT_.out HW_.out (by kernel_rfl)) (fun _ _ _ h => h) (Or.inl ⟨by rfl, ?_⟩) hHeld ?_ ?_
                                 rotate_left
                                 · rintro w' ⟨s0, s1, s2⟩
                                   go_simp
                                   with_reducible rfl
                                 rotate_left
                                 · simp only [Act.put, List.setIfInBounds_toArray, List.set_cons_zero, List.set_cons_succ, i64_w, i32_w]
                                   rfl
                                 refine pure_ (i := 12) (N := some 175) (v := ?_) (a' := ?_) #[true, true, true, true, true, true, true, true, true, true, true, true, true, false] rfl rfl (any_of HT_.out (by kernel_rfl)) (fun _ _ _ h => h) (Or.inl ⟨by rfl, ?_⟩) ?_ ?_
                                 rotate_left
                                 · intro w'
                                   go_simp
                                   with_reducible rfl
                                 rotate_left
                                 · simp only [Act.put, List.setIfInBounds_toArray, List.set_cons_zero, List.set_cons_succ, i64_w, i32_w]
                                   rfl
                                 refine pure_ (i := 13) (N := some 176) (v := ?_) (a' := ?_) #[true, true, true, true, true, true, true, true, true, true, true, true, true, true] rfl rfl (any_of HT_.out (by kernel_rfl)) (fun _ _ _ h => h) (Or.inl ⟨by rfl, ?_⟩) ?_ ?_
                                 rotate_left
                                 · intro w'
                                   go_simp
                                   with_reducible rfl
                                 rotate_left
                                 · simp only [Act.put, List.setIfInBounds_toArray, List.set_cons_zero, List.set_cons_succ, i64_w, i32_w]
                                   rfl
                                 refine done_ (done_of HT_.out (by kernel_rfl)) ?_
                                 try go_wp2
                                 go_roundg k5
                                 case measure => have := HJ8.out; have := HJ16.out; have := HK3.out; have := HJ54.out; have := HK5.out; omega
                                 case rel => exact ⟨(wrap64 (x160_5 + 1)), (by first | rfl | (simp; done) | (simp [*]; done)), H', ⟨by have := HJ8.out; have := HJ16.out; have := HK3.out; have := HJ54.out; have := HK5.out; omega⟩, ⟨by (with_reducible repeat (first | apply Kd.R_alloc | apply Kd.R_drewN | apply Kd.R_drew)); exact HO_21.out⟩, ⟨by repeat (first | (with_reducible first | exact HB.out | apply below_alloc | apply pw_below_drewN | apply below_drew1) | exact HB.out)⟩⟩
                               · rw [if_neg c66] at H
                                 have c66b0 : ((rd t486 x160_5) == (Go.bits .xor .u8 (rd l0 x160_5) (rd l1 x160_5))) = false := beq_eq_false_iff_ne.mpr c66
                                 have c66b1 : ((rd t486 x160_5) != (Go.bits .xor .u8 (rd l0 x160_5) (rd l1 x160_5))) = true := bne_iff_ne.mpr c66
                                 obtain rfl := Option.some.inj H
                                 try go_wp2
                                 have n0_ := Aside0.mk (Kd.R_drew HO_21.out)
                                 have n1_ := Aside0.mk (below_drew1 HB.out)
                                 clear HO_21
                                 clear HB
                                 have HO_21 := n0_
                                 have HB := n1_
                                 clear n0_ n1_
                                 obtain ⟨Ao70, co70, eo70⟩ := Kd.R_slice HO_21.out
                                 (first | subst eo70 | (injection eo70 with f1_ f2_ f3_; have f4_ := f1_.symm; have f5_ := f3_.symm; clear f1_ f2_ f3_; subst f4_; subst f5_))
                                 have p490 : 0 ≤ (x160_5 : Int) := of_decide_eq_true (by first | (with_reducible assumption) | assumption)
                                 have q490 : x160_5 < (t486.length : Int) := of_decide_eq_true (by first | (with_reducible assumption) | assumption)
                                 obtain ⟨ad490, e490, hx490_0⟩ := Kd.at_int (Kd.R_reads' HO_21.out).2.2 x160_5 p490 q490
                                 cases e490
                                 replace p490 := eq_true p490
                                 replace q490 := eq_true q490
                                 have p491 : 0 ≤ (x160_5 : Int) := of_decide_eq_true (by first | (with_reducible assumption) | assumption)
                                 have q491 : x160_5 < (l0.length : Int) := of_decide_eq_true (by first | (with_reducible assumption) | assumption)
                                 obtain ⟨ad491, e491, hx491_0⟩ := Kd.at_int HR0.out x160_5 p491 q491
                                 have hw491_0 := hx491_0
                                 cases e491
                                 replace hx491_0 := (HB.out.cell (World.block_lt_of_cell? w _ hx491_0)).trans hx491_0
                                 replace p491 := eq_true p491
                                 replace q491 := eq_true q491
                                 have p492 : 0 ≤ (x160_5 : Int) := of_decide_eq_true (by first | (with_reducible assumption) | assumption)
                                 have q492 : x160_5 < (l1.length : Int) := of_decide_eq_true (by first | (with_reducible assumption) | assumption)
                                 obtain ⟨ad492, e492, hx492_0⟩ := Kd.at_int HR1.out x160_5 p492 q492
                                 have hw492_0 := hx492_0
                                 cases e492
                                 replace hx492_0 := (HB.out.cell (World.block_lt_of_cell? w _ hx492_0)).trans hx492_0
                                 replace p492 := eq_true p492
                                 replace q492 := eq_true q492
                                 refine start_ (n := 14) (S := fun w' => w'.cell? (ad490.add (x160_5).toNat) = some (.int .u8 (rd t486 x160_5)) ∧ w'.cell? (ad491.add (x160_5).toNat) = some (.int .u8 (rd l0 x160_5)) ∧ w'.cell? (ad492.add (x160_5).toNat) = some (.int .u8 (rd l1 x160_5))) (ds := []) #[false, false, false, false, false, false, false, false, false, false, false, false, false, false] (by kernel_rfl) rfl rfl ⟨hx490_0, ((HB.out.cell (World.block_lt_of_cell? w _ hw491_0)).trans hw491_0), ((HB.out.cell (World.block_lt_of_cell? w _ hw492_0)).trans hw492_0)⟩ (fun hHeld => ?_); refine with_tabW testamurlaw08_SharesSum.tab30 testamurlaw08_SharesSum.bits30 (fun HT_ HW_ => ?_)
                                 generalize wr.drew = w69 at HO_21 HB hx490_0 hx491_0 hx492_0 hHeld ⊢
                                 refine pure_ (i := 0) (N := some 163) (v := ?_) (a' := ?_) #[true, false, false, false, false, false, false, false, false, false, false, false, false, false] rfl rfl (any_of HT_.out (by kernel_rfl)) (fun _ _ _ h => h) (Or.inl ⟨by rfl, ?_⟩) ?_ ?_
                                 rotate_left
                                 · intro w'
                                   go_simp
                                   with_reducible rfl
                                 rotate_left
                                 · simp only [Act.put, List.setIfInBounds_toArray, List.set_cons_zero, List.set_cons_succ, i64_w, i32_w]
                                   rfl
                                 refine pure_ (i := 1) (N := some 164) (v := ?_) (a' := ?_) #[true, true, false, false, false, false, false, false, false, false, false, false, false, false] rfl rfl (any_of HT_.out (by kernel_rfl)) (fun _ _ _ h => h) (Or.inl ⟨by rfl, ?_⟩) ?_ ?_
                                 rotate_left
                                 · intro w'
                                   go_simp
                                   with_reducible rfl
                                 rotate_left
                                 · simp only [Act.put, List.setIfInBounds_toArray, List.set_cons_zero, List.set_cons_succ, i64_w, i32_w]
                                   rfl
                                 refine pure_ (i := 2) (N := some 165) (v := ?_) (a' := ?_) #[true, true, true, false, false, false, false, false, false, false, false, false, false, false] rfl rfl (any_of HT_.out (by kernel_rfl)) (fun _ _ _ h => h) (Or.inl ⟨by rfl, ?_⟩) ?_ ?_
                                 rotate_left
                                 · intro w'
                                   go_simp
                                   with_reducible rfl
                                 rotate_left
                                 · simp only [Act.put, List.setIfInBounds_toArray, List.set_cons_zero, List.set_cons_succ, i64_w, i32_w]
                                   rfl
                                 refine pure_ (i := 4) (N := some 167) (v := ?_) (a' := ?_) #[true, true, true, false, true, false, false, false, false, false, false, false, false, false] rfl rfl (any_of HT_.out (by kernel_rfl)) (fun _ _ _ h => h) (Or.inl ⟨by rfl, ?_⟩) ?_ ?_
                                 rotate_left
                                 · intro w'
                                   go_simp
                                   with_reducible rfl
                                 rotate_left
                                 · simp only [Act.put, List.setIfInBounds_toArray, List.set_cons_zero, List.set_cons_succ, i64_w, i32_w]
                                   rfl
                                 refine pure_ (i := 5) (N := some 168) (v := ?_) (a' := ?_) #[true, true, true, false, true, true, false, false, false, false, false, false, false, false] rfl rfl (any_of HT_.out (by kernel_rfl)) (fun _ _ _ h => h) (Or.inl ⟨by rfl, ?_⟩) ?_ ?_
                                 rotate_left
                                 · intro w'
                                   go_simp
                                   with_reducible rfl
                                 rotate_left
                                 · simp only [Act.put, List.setIfInBounds_toArray, List.set_cons_zero, List.set_cons_succ, i64_w, i32_w]
                                   rfl
                                 refine pure_ (i := 6) (N := some 169) (v := ?_) (a' := ?_) #[true, true, true, false, true, true, true, false, false, false, false, false, false, false] rfl rfl (any_of HT_.out (by kernel_rfl)) (fun _ _ _ h => h) (Or.inl ⟨by rfl, ?_⟩) ?_ ?_
                                 rotate_left
                                 · intro w'
                                   go_simp
                                   with_reducible rfl
                                 rotate_left
                                 · simp only [Act.put, List.setIfInBounds_toArray, List.set_cons_zero, List.set_cons_succ, i64_w, i32_w]
                                   rfl
                                 refine pure_ (i := 8) (N := some 171) (v := ?_) (a' := ?_) #[true, true, true, false, true, true, true, false, true, false, false, false, false, false] rfl rfl (any_of HT_.out (by kernel_rfl)) (fun _ _ _ h => h) (Or.inl ⟨by rfl, ?_⟩) ?_ ?_
                                 rotate_left
                                 · intro w'
                                   go_simp
                                   with_reducible rfl
                                 rotate_left
                                 · simp only [Act.put, List.setIfInBounds_toArray, List.set_cons_zero, List.set_cons_succ, i64_w, i32_w]
                                   rfl
                                 refine pure_ (i := 9) (N := some 172) (v := ?_) (a' := ?_) #[true, true, true, false, true, true, true, false, true, true, false, false, false, false] rfl rfl (any_of HT_.out (by kernel_rfl)) (fun _ _ _ h => h) (Or.inl ⟨by rfl, ?_⟩) ?_ ?_
                                 rotate_left
                                 · intro w'
                                   go_simp
                                   with_reducible rfl
                                 rotate_left
                                 · simp only [Act.put, List.setIfInBounds_toArray, List.set_cons_zero, List.set_cons_succ, i64_w, i32_w]
                                   rfl
                                 refine pure_ (i := 10) (N := some 173) (v := ?_) (a' := ?_) #[true, true, true, false, true, true, true, false, true, true, true, false, false, false] rfl rfl (any_of HT_.out (by kernel_rfl)) (fun _ _ _ h => h) (Or.inl ⟨by rfl, ?_⟩) ?_ ?_
                                 rotate_left
                                 · intro w'
                                   go_simp
                                   with_reducible rfl
                                 rotate_left
                                 · simp only [Act.put, List.setIfInBounds_toArray, List.set_cons_zero, List.set_cons_succ, i64_w, i32_w]
                                   rfl
                                 refine take_ (i := 3) (N := some 166) (v := ?_) (a' := ?_) #[true, true, true, true, true, true, true, false, true, true, true, false, false, false] rfl rfl (take_ofW HT_.out HW_.out (by kernel_rfl)) (fun _ _ _ h => h) (Or.inl ⟨by rfl, ?_⟩) hHeld ?_ ?_
                                 rotate_left
                                 · rintro w' ⟨s0, s1, s2⟩
                                   go_simp
                                   with_reducible rfl
                                 rotate_left
                                 · simp only [Act.put, List.setIfInBounds_toArray, List.set_cons_zero, List.set_cons_succ, i64_w, i32_w]
                                   rfl
                                 refine take_ (i := 7) (N := some 170) (v := ?_) (a' := ?_) #[true, true, true, true, true, true, true, true, true, true, true, false, false, false] rfl rfl (take_ofW HT_.out HW_.out (by kernel_rfl)) (fun _ _ _ h => h) (Or.inl ⟨by rfl, ?_⟩) hHeld ?_ ?_
                                 rotate_left
                                 · rintro w' ⟨s0, s1, s2⟩
                                   go_simp
                                   with_reducible rfl
                                 rotate_left
                                 · simp only [Act.put, List.setIfInBounds_toArray, List.set_cons_zero, List.set_cons_succ, i64_w, i32_w]
                                   rfl
                                 refine take_ (i := 11) (N := some 174) (v := ?_) (a' := ?_) #[true, true, true, true, true, true, true, true, true, true, true, true, false, false] rfl rfl (take_ofW HT_.out HW_.out (by kernel_rfl)) (fun _ _ _ h => h) (Or.inl ⟨by rfl, ?_⟩) hHeld ?_ ?_
                                 rotate_left
                                 · rintro w' ⟨s0, s1, s2⟩
                                   go_simp
                                   with_reducible rfl
                                 rotate_left
                                 · simp only [Act.put, List.setIfInBounds_toArray, List.set_cons_zero, List.set_cons_succ, i64_w, i32_w]
                                   rfl
                                 refine pure_ (i := 12) (N := some 175) (v := ?_) (a' := ?_) #[true, true, true, true, true, true, true, true, true, true, true, true, true, false] rfl rfl (any_of HT_.out (by kernel_rfl)) (fun _ _ _ h => h) (Or.inl ⟨by rfl, ?_⟩) ?_ ?_
                                 rotate_left
                                 · intro w'
                                   go_simp
                                   with_reducible rfl
                                 rotate_left
                                 · simp only [Act.put, List.setIfInBounds_toArray, List.set_cons_zero, List.set_cons_succ, i64_w, i32_w]
                                   rfl
                                 refine pure_ (i := 13) (N := some 176) (v := ?_) (a' := ?_) #[true, true, true, true, true, true, true, true, true, true, true, true, true, true] rfl rfl (any_of HT_.out (by kernel_rfl)) (fun _ _ _ h => h) (Or.inl ⟨by rfl, ?_⟩) ?_ ?_
                                 rotate_left
                                 · intro w'
                                   go_simp
                                   with_reducible rfl
                                 rotate_left
                                 · simp only [Act.put, List.setIfInBounds_toArray, List.set_cons_zero, List.set_cons_succ, i64_w, i32_w]
                                   rfl
                                 refine done_ (done_of HT_.out (by kernel_rfl)) ?_
                                 try go_wp2
                                 go_ret
                                 exact ⟨by first | rfl | (simp [errW_none, errW_some] <;> rfl) | (simp [*, errW_none, errW_some] <;> rfl), by repeat (first | (with_reducible first | exact HB.out | apply below_alloc | apply pw_below_drewN | apply below_drew1) | exact HB.out)⟩
                             · rw [if_neg c65] at H
                               exact absurd H (by simp)
                           · rw [if_neg c64] at H
                             exact absurd H (by simp)
                         · rw [if_neg c63] at H
                           exact absurd H (by simp)
                       · rw [if_neg c62] at H
                         exact absurd H (by simp)
                     · rw [if_neg c61] at H
                       have c61b0 : decide (x160_5 < (l0.length : Int)) = false := decide_eq_false c61
                       clear c61
                       obtain rfl := Option.some.inj H
                       go_wp2
                       go_ret
                       exact ⟨by first | rfl | (simp [errW_none, errW_some] <;> rfl) | (simp [*, errW_none, errW_some] <;> rfl), by repeat (first | (with_reducible first | exact HB.out | apply below_alloc | apply pw_below_drewN | apply below_drew1) | exact HB.out)⟩
 · replace c8 := Bool.eq_false_iff.mpr c8
   subst c8
   have H1 : (some false) = some r := by rw [if_neg (show ¬ (false = true) by decide)] at H; exact H
   clear H
   have H := H1
   clear H1
   obtain rfl := Option.some.inj H
   go_enter Try.func14, Try.ntmps14
   go_wp2_with (first | ((with_reducible refine gate_callee (f := 23) rfl ?_); refine goesL_ (some 24) rfl rfl Try.func23 (by kernel_rfl) rfl #[] rfl (by (try simp only [List.map_toArray, List.map_cons, List.map_nil]); first | done | rfl | (simp only [List.length_drop, List.length_take]; rfl)) ?_; (with_reducible refine (testamurlaw08_sane.calls  false _ A7.out).mono ?_); rintro e w71 ⟨rfl, hb⟩; refine ⟨_, rfl, ?_⟩; have n0_ := Aside0.mk (below_step (by repeat (first | (with_reducible first | exact HB.out | apply below_alloc | apply pw_below_drewN | apply below_drew1) | exact HB.out)) hb); clear HB; have HB := n0_; clear n0_; (try clear hb); (try clear hb2); (try clear hk); (try clear hi)))
   go_ret
   exact ⟨by first | rfl | (simp [errW_none, errW_some] <;> rfl) | (simp [*, errW_none, errW_some] <;> rfl), by repeat (first | (with_reducible first | exact HB.out | apply below_alloc | apply pw_below_drewN | apply below_drew1) | exact HB.out)⟩
end Go.Proofs.Ytillfbohengpaaa.PA
end
section
set_option linter.unusedVariables false
set_option linter.unusedSimpArgs false
namespace Go.Proofs.Ytillfbohengpaaa
open Go.RowKit Gf Go.Proofs.YtillfbohengpaaaW.PrintWords PA
theorem g_add (l m : List G) (h : l.length = m.length) (i : Nat) (hi : i < l.length) : g (add l m) i = g l i ^^^ g m i := by
  rw [g_eq _ _ (by rw [add_length l m h]; exact hi), g_eq _ _ hi, g_eq _ _ (by omega)]
  simp [add]
theorem line_add (a b p q : List G) (m at_ : Nat) (h : a.length = b.length) (hpq : p.length = q.length) (ha : at_ < a.length) : lineG (add a b) (add p q) m at_ = add (lineG a p m at_) (lineG b q m at_) := by
  unfold lineG
  rw [g_add a b h at_ ha]
  simp only [add, List.zipWith_cons_cons, List.drop_zipWith, List.take_zipWith]
theorem data_add (a b p q : List G) (m i : Nat) (h : a.length = b.length) (hpq : p.length = q.length) (hp : p.length = a.length * m) : dataG (add a b) (add p q) m i = (List.range a.length).map fun k => g (dataG a p m i) k ^^^ g (dataG b q m i) k := by
  unfold dataG
  rw [add_length a b h]
  refine List.map_congr_left fun k hk => ?_
  have hk' : k < a.length := by simpa using hk
  rw [line_add a b p q m k h hpq hk', ev_add _ _ (by rw [line_length a p m k hk' hp, line_length b q m k (by omega) (by rw [← hpq, hp, h])])]
  have e1 := g_data a p m i k hk'
  have e2 := g_data b q m i k (by omega)
  unfold dataG at e1 e2
  rw [e1, e2]
theorem data_len (a p : List G) (m i : Nat) : (dataG a p m i).length = a.length := by simp [dataG]
section
variable (a b p q : List G) (m n : Nat) (h : a.length = b.length) (hpq : p.length = q.length) (hp : p.length = a.length * m) (hm : m + 1 ≤ n) (hn : n ≤ 8) (h64 : a.length ≤ 64)
include h hpq hp hm hn h64
theorem sum_l1 (i : Nat) (hi : i < n) (acc : List S52) (hacc : acc.length ≤ 100) (R : Option Bool) (K0 : Nat)
    (hK : ∀ k, K0 ≤ k → testamurlaw08_SharesSum.l0 k (a.map tI) (b.map tI) ((splitTo a p 0 m n n).map sI) ((splitTo b q 0 m n n).map sI) (acc ++ [sI (shareG (add a b) (add p q) 0 m n (i + 1))]) (n : Int) ((i : Int) + 1) = R) :
    ∀ d j k, j + d = a.length → d + K0 < k → testamurlaw08_SharesSum.l1 k (a.map tI) (b.map tI) ((splitTo a p 0 m n n).map sI) ((splitTo b q 0 m n n).map sI) acc (i : Int) (n : Int) (i : Int) (a.length : Int) (j : Int) 0 ((i + 1 : Nat) : Int) ((m : Int) + 1) (n : Int) (((List.range j).map fun k => g (dataG a p m (i + 1)) k ^^^ g (dataG b q m (i + 1)) k).map tI) = R := by
  have hl1 : (splitTo a p 0 m n n).length = n := by simp [splitTo]
  have hl2 : (splitTo b q 0 m n n).length = n := by simp [splitTo]
  have e1 : rd_T52 ((splitTo a p 0 m n n).map sI) (i : Int) = sI (shareG a p 0 m n (i + 1)) := by rw [rdT_map _ i (by omega)]; simp [splitTo]
  have e2 : rd_T52 ((splitTo b q 0 m n n).map sI) (i : Int) = sI (shareG b q 0 m n (i + 1)) := by rw [rdT_map _ i (by omega)]; simp [splitTo]
  have hsI : sI (shareG (add a b) (add p q) 0 m n (i + 1)) = ⟨0, ((i + 1 : Nat) : Int), (m : Int) + 1, (n : Int), ((List.range a.length).map fun k => g (dataG a p m (i + 1)) k ^^^ g (dataG b q m (i + 1)) k).map tI⟩ := by
    rw [← data_add a b p q m (i + 1) h hpq hp]; rfl
  have f1 : (sI (shareG a p 0 m n (i + 1))).f4 = (dataG a p m (i + 1)).map tI := rfl
  have f2 : (sI (shareG b q 0 m n (i + 1))).f4 = (dataG b q m (i + 1)).map tI := rfl
  rw [hsI] at hK
  have g1 := data_len a p m (i + 1)
  have g2 := data_len b q m (i + 1)
  generalize dataG a p m (i + 1) = da at *
  generalize dataG b q m (i + 1) = db at *
  intro d
  induction d with
  | zero =>
    intro j k hj hk
    obtain ⟨k, rfl⟩ : ∃ q, k = q + 1 := ⟨k - 1, by omega⟩
    simp only [testamurlaw08_SharesSum.l1]
    rw [if_neg (by omega), if_pos (by omega), w64 _ (by omega) (by omega)]
    obtain rfl : j = a.length := by omega
    exact hK k (by omega)
  | succ d ih =>
    intro j k hj hk
    obtain ⟨k, rfl⟩ : ∃ q, k = q + 1 := ⟨k - 1, by omega⟩
    simp only [testamurlaw08_SharesSum.l1, e1, e2, f1, f2]
    rw [if_pos (by omega), if_pos (by omega), if_pos (by rw [List.length_map]; omega), if_pos (by omega), if_pos (by rw [List.length_map]; omega), if_pos (by rw [List.length_map]; omega), if_pos (by rw [List.length_map]; omega), if_pos (by simp only [List.length_map, List.length_range]; omega)]
    rw [rd_map _ _ (by omega), rd_map _ _ (by omega), xor_tI, w64 _ (by omega) (by omega)]
    have h1 : ((List.range j).map fun k => g da k ^^^ g db k).map tI ++ [tI (g da j ^^^ g db j)] = ((List.range (j + 1)).map fun k => g da k ^^^ g db k).map tI := by
      rw [List.range_succ, List.map_append, List.map_append]; rfl
    rw [h1]
    exact ih (j + 1) k (by omega) (by omega)
omit hpq hp hm hn in
theorem sum_l2 : ∀ d j k, j + d = a.length → d < k → testamurlaw08_SharesSum.l2 k (a.map tI) (b.map tI) ((add a b).map tI) (a.length : Int) (j : Int) = some true := by
  have hl := add_length a b h
  intro d
  induction d with
  | zero =>
    intro j k hj hk
    obtain ⟨k, rfl⟩ : ∃ q, k = q + 1 := ⟨k - 1, by omega⟩
    simp only [testamurlaw08_SharesSum.l2]
    rw [if_neg (by omega)]
  | succ d ih =>
    intro j k hj hk
    obtain ⟨k, rfl⟩ : ∃ q, k = q + 1 := ⟨k - 1, by omega⟩
    simp only [testamurlaw08_SharesSum.l2]
    rw [if_pos (by omega), if_pos (by omega), if_pos (by rw [List.length_map]; omega), if_pos (by rw [List.length_map]; omega), if_pos (by rw [List.length_map]; omega)]
    rw [rd_map _ _ (by omega), rd_map _ _ (by omega), rd_map _ _ (by omega), xor_tI, g_add a b h j (by omega), if_pos rfl, w64 _ (by omega) (by omega)]
    exact ih (j + 1) k (by omega) (by omega)
theorem sum_l0 : ∀ d i, i + d = n → ∃ K, ∀ k, K ≤ k → testamurlaw08_SharesSum.l0 k (a.map tI) (b.map tI) ((splitTo a p 0 m n n).map sI) ((splitTo b q 0 m n n).map sI) ((splitTo (add a b) (add p q) 0 m n i).map sI) (n : Int) (i : Int) = some true := by
  have hl1 : (splitTo a p 0 m n n).length = n := by simp [splitTo]
  have hl2 : (splitTo b q 0 m n n).length = n := by simp [splitTo]
  intro d
  induction d with
  | zero =>
    intro i hi
    refine ⟨a.length + 10, fun k hk => ?_⟩
    obtain ⟨k, rfl⟩ : ∃ q, k = q + 1 := ⟨k - 1, by omega⟩
    simp only [testamurlaw08_SharesSum.l0]
    obtain rfl : i = n := by omega
    rw [if_neg (by omega), join_f]
    simp only [Option.bind_some]
    have hch : Ch (List.range i) i := ⟨fun j hj => by simpa using hj, List.pairwise_lt_range⟩
    have hpl : (add p q).length = (add a b).length * m := by rw [add_length p q hpq, add_length a b h]; exact hp
    have hj := (chosen_join (l := add a b) (r := add p q) (ep := 0) hch (by intro he; have := congrArg List.length he; simp at this; omega) hm hn (by rw [add_length a b h]; exact h64) (by omega) (by omega) hpl).1 (by rw [List.length_range]; exact hm)
    obtain ⟨j1, j2⟩ := hj
    rw [show splitTo (add a b) (add p q) 0 m i i = chosen (add a b) (add p q) 0 m i (List.range i) from rfl, j1, j2, if_pos rfl]
    obtain ⟨k, rfl⟩ : ∃ q, k = q + 1 := ⟨k - 1, by omega⟩
    simp only [testamurlaw08_SharesSum.j5, List.length_map, add_length a b h]
    rw [if_neg (by simp)]
    exact sum_l2 a b h h64 a.length 0 k (by omega) (by omega)
  | succ d ih =>
    intro i hi
    obtain ⟨K0, hK0⟩ := ih (i + 1) (by omega)
    refine ⟨K0 + a.length + 200, fun k hk => ?_⟩
    obtain ⟨k, rfl⟩ : ∃ q, k = q + 1 := ⟨k - 1, by omega⟩
    have e1 : rd_T52 ((splitTo a p 0 m n n).map sI) (i : Int) = sI (shareG a p 0 m n (i + 1)) := by rw [rdT_map _ i (by omega)]; simp [splitTo]
    have e2 : rd_T52 ((splitTo b q 0 m n n).map sI) (i : Int) = sI (shareG b q 0 m n (i + 1)) := by rw [rdT_map _ i (by omega)]; simp [splitTo]
    have f1 : (sI (shareG a p 0 m n (i + 1))).f4 = (dataG a p m (i + 1)).map tI := rfl
    have f2 : (sI (shareG b q 0 m n (i + 1))).f4 = (dataG b q m (i + 1)).map tI := rfl
    have g1 := data_len a p m (i + 1)
    have g2 := data_len b q m (i + 1)
    simp only [testamurlaw08_SharesSum.l0, e1, e2, f1, f2]
    rw [if_pos (by omega), if_pos (by omega), if_pos (by rw [List.length_map]; omega), if_pos (by simp only [List.length_map]; omega), if_pos (by rw [List.length_map]; omega)]
    have hbne : (((List.map tI (dataG b q m (i + 1))).length : Int) != ((List.map tI a).length : Int)) = false := by
      rw [bne_eq_false_iff_eq, List.length_map, List.length_map]; omega
    rw [hbne]
    obtain ⟨k, rfl⟩ : ∃ q, k = q + 1 := ⟨k - 1, by omega⟩
    simp only [testamurlaw08_SharesSum.j3]
    rw [if_neg (by decide), List.length_map]
    exact sum_l1 a b p q m n h hpq hp hm hn h64 i (by omega) ((splitTo (add a b) (add p q) 0 m n i).map sI) (by simp [splitTo]; omega) _ K0 (fun k hk => by
      have := hK0 k hk
      rw [splitTo_succ, List.map_append] at this
      exact this) a.length 0 k (by omega) (by omega)
end
theorem sum_f (a b p q : List G) (th mn : Int) : ∃ k, testamurlaw08_SharesSum.f k (a.map tI) (b.map tI) th mn (p.map tI) (q.map tI) = some true := by
  have j1 : ∀ k, testamurlaw08_SharesSum.j0 (k + 1) (a.map tI) (b.map tI) th mn (p.map tI) (q.map tI) true = some true := by
    intro k
    simp only [testamurlaw08_SharesSum.j0]
    rw [if_pos trivial]
  have base : ∀ k, testamurlaw08_SharesSum.f k (a.map tI) (b.map tI) th mn (p.map tI) (q.map tI) = (if (a.length : Int) > 20 then (testamurlaw08_SharesSum.j0 k (a.map tI) (b.map tI) th mn (p.map tI) (q.map tI) true) else (if (a.length : Int) = (b.length : Int) then (if (p.length : Int) > 200 then (testamurlaw08_SharesSum.j0 k (a.map tI) (b.map tI) th mn (p.map tI) (q.map tI) true) else (testamurlaw08_SharesSum.j0 k (a.map tI) (b.map tI) th mn (p.map tI) (q.map tI) (decide ((q.length : Int) > 200)))) else (testamurlaw08_SharesSum.j0 k (a.map tI) (b.map tI) th mn (p.map tI) (q.map tI) true))) := by
    intro k
    unfold testamurlaw08_SharesSum.f
    rw [sane_f]
    simp only [Option.bind_some]
    rw [if_pos trivial]
    simp only [List.length_map]
  by_cases c1 : (a.length : Int) > 20
  · exact ⟨1, by rw [base, if_pos c1]; exact j1 0⟩
  by_cases c2 : (a.length : Int) = (b.length : Int)
  case neg => exact ⟨1, by rw [base, if_neg c1, if_neg c2]; exact j1 0⟩
  by_cases c3 : (p.length : Int) > 200
  · exact ⟨1, by rw [base, if_neg c1, if_pos c2, if_pos c3]; exact j1 0⟩
  by_cases c4 : (q.length : Int) > 200
  · exact ⟨1, by rw [base, if_neg c1, if_pos c2, if_neg c3, show decide ((q.length : Int) > 200) = true from decide_eq_true c4]; exact j1 0⟩
  have hab : a.length = b.length := by omega
  have c4b : decide ((q.length : Int) > 200) = false := decide_eq_false c4
  have sp := split_f a p 0 th mn (by omega) (by omega)
  have sq := split_f b q 0 th mn (by omega) (by omega)
  by_cases hp : splitErr a.length p.length 0 th mn = 0
  case neg =>
    have hV : splitV a p 0 th mn = ([], splitErr a.length p.length 0 th mn) := by unfold splitV; rw [if_neg hp]
    refine ⟨2, ?_⟩
    rw [base, if_neg c1, if_pos c2, if_neg c3, c4b]
    simp only [testamurlaw08_SharesSum.j0]
    rw [if_neg (by decide), sp, sq]
    simp only [Option.bind_some, hV]
    rw [if_neg hp]
    simp only [testamurlaw08_SharesSum.j1]
    rw [if_pos trivial, if_neg hp]
  have hVp : splitV a p 0 th mn = (splitTo a p 0 (th - 1).toNat mn.toNat mn.toNat, 0) := by unfold splitV; rw [if_pos hp]
  by_cases hq : splitErr b.length q.length 0 th mn = 0
  case neg =>
    have hV : splitV b q 0 th mn = ([], splitErr b.length q.length 0 th mn) := by unfold splitV; rw [if_neg hq]
    refine ⟨2, ?_⟩
    rw [base, if_neg c1, if_pos c2, if_neg c3, c4b]
    simp only [testamurlaw08_SharesSum.j0]
    rw [if_neg (by decide), sp, sq]
    simp only [Option.bind_some, hV, hVp]
    rw [if_pos trivial, if_neg hq]
    simp only [testamurlaw08_SharesSum.j1]
    rw [if_pos trivial, if_pos trivial]
    exact congrArg some (bne_iff_ne.2 hq)
  obtain ⟨hl64, m, n, rfl, rfl, hm, hn, he0, he1, hr⟩ := splitErr_zero hp
  obtain ⟨_, m', n', hm', hn', _, _, _, _, hr'⟩ := splitErr_zero hq
  obtain rfl : m = m' := by omega
  have hVp : splitV a p 0 ((m : Int) + 1) (n : Int) = (splitTo a p 0 m n n, 0) := by
    unfold splitV; rw [if_pos hp, show ((m : Int) + 1 - 1).toNat = m by omega, Int.toNat_natCast]
  have hVq : splitV b q 0 ((m : Int) + 1) (n : Int) = (splitTo b q 0 m n n, 0) := by
    unfold splitV; rw [if_pos hq, show ((m : Int) + 1 - 1).toNat = m by omega, Int.toNat_natCast]
  have hl1 : (splitTo a p 0 m n n).length = n := by simp [splitTo]
  have hl2 : (splitTo b q 0 m n n).length = n := by simp [splitTo]
  obtain ⟨K, hK⟩ := sum_l0 a b p q m n hab (by rw [hr, hr', hab]) hr hm hn hl64 n 0 (by omega)
  refine ⟨K + 2, ?_⟩
  rw [base, if_neg c1, if_pos c2, if_neg c3, c4b]
  simp only [testamurlaw08_SharesSum.j0]
  rw [if_neg (by decide), sp, sq]
  simp only [Option.bind_some, hVp, hVq]
  rw [if_pos trivial, if_pos trivial]
  have hbne : (((List.map sI (splitTo a p 0 m n n)).length : Int) != ((List.map sI (splitTo b q 0 m n n)).length : Int)) = false := by
    rw [bne_eq_false_iff_eq, List.length_map, List.length_map]; omega
  rw [hbne]
  simp only [testamurlaw08_SharesSum.j1]
  rw [if_neg (by decide), List.length_map, hl1]
  exact hK K (Nat.le_refl _)
theorem sum_w {w : World} (A0 : Option Addr) (c0 : Nat) (l0 : List Int) (hC0 : Kd.C (Kd.int .u8) w A0 l0.length l0) (hc0 : l0.length ≤ c0) (hW0 : ∀ x ∈ l0, (Lit.int .u8 x).wf = true)
    (A1 : Option Addr) (c1 : Nat) (l1 : List Int) (hC1 : Kd.C (Kd.int .u8) w A1 l1.length l1) (hc1 : l1.length ≤ c1) (hW1 : ∀ x ∈ l1, (Lit.int .u8 x).wf = true)
    (a2 : Int) (w2 : (Lit.int .i64 a2).wf = true) (a3 : Int) (w3 : (Lit.int .i64 a3).wf = true)
    (A4 : Option Addr) (c4 : Nat) (l4 : List Int) (hC4 : Kd.C (Kd.int .u8) w A4 l4.length l4) (hc4 : l4.length ≤ c4) (hW4 : ∀ x ∈ l4, (Lit.int .u8 x).wf = true)
    (A5 : Option Addr) (c5 : Nat) (l5 : List Int) (hC5 : Kd.C (Kd.int .u8) w A5 l5.length l5) (hc5 : l5.length ≤ c5) (hW5 : ∀ x ∈ l5, (Lit.int .u8 x).wf = true) :
    Calls Try.prog 14 #[.slice A0 l0.length c0, .slice A1 l1.length c1, .int .i64 a2, .int .i64 a3, .slice A4 l4.length c4, .slice A5 l5.length c5] w fun e w' => e = .returned (.bool true) ∧ Below w.heap.size w w' := by
  obtain ⟨a, rfl⟩ := ex_isB (isB_wf l0 hW0)
  obtain ⟨b, rfl⟩ := ex_isB (isB_wf l1 hW1)
  obtain ⟨p, rfl⟩ := ex_isB (isB_wf l4 hW4)
  obtain ⟨q, rfl⟩ := ex_isB (isB_wf l5 hW5)
  obtain ⟨k, hk⟩ := sum_f a b p q a2 a3
  exact testamurlaw08_SharesSum.calls k A0 c0 (a.map tI) A1 c1 (b.map tI) a2 a3 A4 c4 (p.map tI) A5 c5 (q.map tI) true w hC0 hc0 hC1 hc1 hC4 hc4 hC5 hc5 hk
end Go.Proofs.Ytillfbohengpaaa
end
