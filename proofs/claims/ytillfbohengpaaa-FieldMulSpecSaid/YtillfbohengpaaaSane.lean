/-
  WALKS: field.Through, the chapter's examples (testamurlaw07.sane).
-/
import Derived.Test.YtillfbohengpaaaCoef
import Derived.Laws.BytesArg
set_option linter.unusedVariables false
set_option linter.unusedSimpArgs false
namespace Go.Proofs.Ytillfbohengpaaa
open Go.RowKit Gf Go.Sort
attribute [local go_sem] bits_gx
theorem through_bad (A B : Option Addr) (c d n m : Nat) (xs ys : List G) (x : G) (w : World) (hx : RL gv w A n xs) (hy : RL gv w B m ys) (hn : ¬ (xs.Nodup ∧ n = m)) :
    Calls Try.prog 21 #[.slice A n c, .slice B m d, .int .u8 (x.toNat : Int)] w fun e w' => e = .returned (.tuple #[.int .u8 0, .int .i64 1]) ∧ Below w.heap.size w w' := by
  go_enter Try.func21, Try.ntmps21
  go_wp2_with fail
  refine (coefs_bad _ _ _ _ _ _ _ _ _ hx hy hn).mono ?_
  rintro e w1 ⟨rfl, hb1⟩
  go_wp2_with fail
  go_ret2
  exact ⟨rfl, hb1⟩
theorem through_ok (A B : Option Addr) (c d n : Nat) (xs ys : List G) (x : G) (w : World) (hx : RL gv w A n xs) (hy : RL gv w B n ys) (hn : xs.Nodup) (hb : n ≤ 1000) :
    Calls Try.prog 21 #[.slice A n c, .slice B n d, .int .u8 (x.toNat : Int)] w fun e w' => e = .returned (.tuple #[.int .u8 ((ev (coefs xs ys) x).toNat : Int), .int .i64 0]) ∧ Below w.heap.size w w' := by
  go_enter Try.func21, Try.ntmps21
  go_wp2_with fail
  refine (coefs_ok _ _ _ _ _ _ _ _ hx hy hn hb).mono ?_
  rintro e w1 ⟨v, rfl, hv, hb1⟩
  obtain ⟨Av, cv, rfl, hr⟩ := hv.rl
  go_wp2_with fail
  refine (eval_u _ _ _ _ _ _ hr).mono ?_
  rintro e w2 ⟨rfl, hb2⟩
  go_wp2_with fail
  go_ret2
  exact ⟨rfl, bthen hb1 hb2⟩
theorem RL.lit (w : World) (cs : Array Value) (l : List G) (n : Nat) (hcs : cs = (l.map gv).toArray) (hn : l.length = n) (hm : n ≤ 1000) : RL gv (w.alloc (.cells cs 5)) (some ⟨w.heap.size, 0, none⟩) n l :=
  (OwnL.lit (base := 0) w cs l n hcs hn (Nat.zero_le _) (by unfold maxLen; omega)).rlg
theorem und_str : Try.prog.underlying 9 = some .string := by kernel_rfl
theorem und_u8 : Try.prog.underlying 5 = some (.int .u8) := by kernel_rfl
theorem conv_two (w : World) (g0 cl : Nat) (x y : Int) (h0 : w.cell? ⟨g0, 0, none⟩ = some (.int .u8 x)) (h1 : w.cell? ⟨g0, 1, none⟩ = some (.int .u8 y)) :
    (convert 30 9 (.slice (some ⟨g0, 0, none⟩) 2 cl)).run Try.prog w = .ok (.string (strOfNums [x, y])) w := by
  refine run_convert_bytes_arg w _ _ slice_u8 und_u8 g0 0 2 cl [x, y] rfl (fun i hi => ?_) _ und_str
  match i, hi with
  | 0, _ => simpa using h0
  | 1, _ => simpa using h1
theorem inv_2 (w : World) : Calls Try.prog 16 #[.int .u8 2] w fun e w' => e = .returned (.tuple #[.int .u8 141, .int .i64 0]) ∧ Below w.heap.size w w' := by
  refine (inv_u 2#8 w).mono ?_
  rintro e w1 ⟨rfl, h⟩
  exact ⟨by rw [show invR 2#8 = (141#8, 0) by decide +kernel]; rfl, h⟩
theorem inv_0 (w : World) : Calls Try.prog 16 #[.int .u8 0] w fun e w' => e = .returned (.tuple #[.int .u8 0, .int .i64 1]) ∧ Below w.heap.size w w' := by
  refine (inv_u 0#8 w).mono ?_
  rintro e w1 ⟨rfl, h⟩
  exact ⟨by rw [show invR 0#8 = (0#8, 1) by decide +kernel]; rfl, h⟩
theorem rl2 (w : World) (a b c d : G) : RL gv ((w.alloc (.cells #[gv a, gv b] 5)).alloc (.cells #[gv c, gv d] 5)) (some ⟨w.heap.size, 0, none⟩) 2 [a, b] ∧
    RL gv ((w.alloc (.cells #[gv a, gv b] 5)).alloc (.cells #[gv c, gv d] 5)) (some ⟨w.heap.size + 1, 0, none⟩) 2 [c, d] := by
  refine ⟨(RL.lit w _ [a, b] 2 rfl rfl (by omega)).below (below_alloc1 _ _), ?_⟩
  have := RL.lit (w.alloc (.cells #[gv a, gv b] 5)) _ [c, d] 2 rfl rfl (by omega)
  rwa [show (w.alloc (.cells #[gv a, gv b] 5)).heap.size = w.heap.size + 1 by simp] at this
theorem bal2 (w : World) (o o2 : Obj) : Below w.heap.size w ((w.alloc o).alloc o2) := balloc (below_alloc1 _ _) _
theorem coefs_sane (w : World) : Calls Try.prog 20 #[.slice (some ⟨w.heap.size, 0, none⟩) 2 2, .slice (some ⟨w.heap.size + 1, 0, none⟩) 2 2]
    ((w.alloc (.cells #[.int .u8 1, .int .u8 2] 5)).alloc (.cells #[.int .u8 5, .int .u8 5] 5)) fun e w' => ∃ g0 cap, e = .returned (.tuple #[.slice (some ⟨g0, 0, none⟩) 2 cap, .int .i64 0]) ∧ g0 < w'.heap.size ∧ w'.cell? ⟨g0, 0, none⟩ = some (.int .u8 5) ∧ w'.cell? ⟨g0, 1, none⟩ = some (.int .u8 0) ∧ Below w.heap.size w w' := by
  obtain ⟨h1, h2⟩ := rl2 w 1#8 2#8 5#8 5#8
  refine (coefs_ok _ _ 2 2 2 [1#8, 2#8] [5#8, 5#8] _ h1 h2 (by decide) (by omega)).mono ?_
  rintro e w3 ⟨v, rfl, hv, hb3⟩
  rw [show coefs [1#8, 2#8] [5#8, 5#8] = [5#8, 0#8] by decide +kernel] at hv
  obtain ⟨gl, cl, rfl, hgl, hgll⟩ := hv.form (by omega)
  exact ⟨gl, cl, rfl, hgll, hv.cell 0 (by decide), hv.cell 1 (by decide), bthen (bal2 w _ _) hb3⟩
theorem through_sane (w : World) : Calls Try.prog 21 #[.slice (some ⟨w.heap.size, 0, none⟩) 2 2, .slice (some ⟨w.heap.size + 1, 0, none⟩) 2 2, .int .u8 77]
    ((w.alloc (.cells #[.int .u8 1, .int .u8 2] 5)).alloc (.cells #[.int .u8 5, .int .u8 5] 5)) fun e w' => e = .returned (.tuple #[.int .u8 5, .int .i64 0]) ∧ Below w.heap.size w w' := by
  obtain ⟨h1, h2⟩ := rl2 w 1#8 2#8 5#8 5#8
  refine (through_ok _ _ 2 2 2 [1#8, 2#8] [5#8, 5#8] 77#8 _ h1 h2 (by decide) (by omega)).mono ?_
  rintro e w3 ⟨rfl, hb3⟩
  exact ⟨by rw [show ev (coefs [1#8, 2#8] [5#8, 5#8]) 77#8 = 5#8 by decide +kernel]; rfl, bthen (bal2 w _ _) hb3⟩
theorem through_nil (w : World) : Calls Try.prog 21 #[.slice none 0 0, .slice none 0 0, .int .u8 7] w fun e w' => e = .returned (.tuple #[.int .u8 0, .int .i64 0]) ∧ Below w.heap.size w w' := by
  refine (through_ok _ _ 0 0 0 [] [] 7#8 _ (RL.nil _ _ _) (RL.nil _ _ _) (by decide) (by omega)).mono ?_
  rintro e w3 ⟨rfl, hb3⟩
  exact ⟨by rw [show ev (coefs [] []) 7#8 = 0#8 by decide +kernel]; rfl, hb3⟩
theorem through_sane2 (w : World) : Calls Try.prog 21 #[.slice (some ⟨w.heap.size, 0, none⟩) 2 2, .slice (some ⟨w.heap.size + 1, 0, none⟩) 2 2, .int .u8 7]
    ((w.alloc (.cells #[.int .u8 1, .int .u8 1] 5)).alloc (.cells #[.int .u8 5, .int .u8 5] 5)) fun e w' => e = .returned (.tuple #[.int .u8 0, .int .i64 1]) ∧ Below w.heap.size w w' := by
  obtain ⟨h1, h2⟩ := rl2 w 1#8 1#8 5#8 5#8
  refine (through_bad _ _ 2 2 2 2 [1#8, 1#8] [5#8, 5#8] 7#8 _ h1 h2 (by decide)).mono ?_
  rintro e w3 ⟨rfl, hb3⟩
  exact ⟨rfl, bthen (bal2 w _ _) hb3⟩
theorem coefs_sane2 (w : World) : Calls Try.prog 20 #[.slice (some ⟨w.heap.size, 0, none⟩) 1 1, .slice none 0 0] (w.alloc (.cells #[.int .u8 1] 5)) fun e w' => e = .returned (.tuple #[.slice none 0 0, .int .i64 1]) ∧ Below w.heap.size w w' := by
  refine (coefs_bad _ _ 1 0 1 0 [1#8] [] _ (RL.lit w _ [1#8] 1 rfl rfl (by omega)) (RL.nil _ _ _) (by decide)).mono ?_
  rintro e w3 ⟨rfl, hb3⟩
  exact ⟨rfl, bthen (below_alloc1 w _) hb3⟩
theorem mul_lit (a b : G) (x y z : Int) (hx : (a.toNat : Int) = x) (hy : (b.toNat : Int) = y) (hz : ((mul a b).toNat : Int) = z) (w : World) : Calls Try.prog 18 #[.int .u8 x, .int .u8 y] w fun e w' => e = .returned (.int .u8 z) ∧ Below w.heap.size w w' := by
  subst hx hy hz; exact mul_u a b w
theorem eval_nil (w : World) : Calls Try.prog 22 #[.slice none 0 0, .int .u8 7] w fun e w' => e = .returned (.int .u8 0) ∧ Below w.heap.size w w' := by
  refine (eval_u _ 0 0 [] 7#8 _ (RL.nil _ _ _)).mono ?_
  rintro e w3 ⟨rfl, hb3⟩
  exact ⟨rfl, hb3⟩
theorem eval_sane (w : World) : Calls Try.prog 22 #[.slice (some ⟨w.heap.size, 0, none⟩) 3 3, .int .u8 0] (w.alloc (.cells #[.int .u8 3, .int .u8 9, .int .u8 200] 5)) fun e w' => e = .returned (.int .u8 3) ∧ Below w.heap.size w w' := by
  refine (eval_u _ 3 3 [3#8, 9#8, 200#8] 0#8 _ (RL.lit w _ [3#8, 9#8, 200#8] 3 rfl rfl (by omega))).mono ?_
  rintro e w3 ⟨rfl, hb3⟩
  exact ⟨by rw [show ev [3#8, 9#8, 200#8] 0#8 = 3#8 by decide +kernel]; rfl, bthen (below_alloc1 w _) hb3⟩
set_option maxRecDepth 100000 in
set_option maxHeartbeats 2000000 in
theorem sane_u (w : World) :
    Calls Try.prog 15 #[] w fun e w' => e = .returned (.bool true) ∧ Below w.heap.size w w' := by
  go_enter Try.func15, Try.ntmps15
  go_wp2_with fail
  refine (inv_2 _).mono ?_
  rintro e w1 ⟨rfl, hb1⟩
  go_wp2_with fail
  refine (inv_0 _).mono ?_
  rintro e w2 ⟨rfl, hb2⟩
  have hB2 := bthen hb1 hb2
  clear hb1 hb2
  go_wp2_with fail
  refine (coefs_sane _).mono ?_
  rintro e w3 ⟨g0, cl, rfl, hlt3, hc0, hc1, hb3⟩
  have hB3 := bthen hB2 hb3
  clear hb3 hB2
  go_wp2_with fail
  refine (through_sane _).mono ?_
  rintro e w4 ⟨rfl, hb4⟩
  have hB4 := bthen hB3 hb4
  replace hc0 := (hb4.cell (p := ⟨g0, 0, none⟩) hlt3).trans hc0
  replace hc1 := (hb4.cell (p := ⟨g0, 1, none⟩) hlt3).trans hc1
  have hlt4 := Nat.lt_of_lt_of_le hlt3 hb4.size
  clear hb4 hB3 hlt3
  go_wp2_with fail
  refine (through_nil _).mono ?_
  rintro e w5 ⟨rfl, hb5⟩
  have hB5 := bthen hB4 hb5
  replace hc0 := (hb5.cell (p := ⟨g0, 0, none⟩) hlt4).trans hc0
  replace hc1 := (hb5.cell (p := ⟨g0, 1, none⟩) hlt4).trans hc1
  have hlt5 := Nat.lt_of_lt_of_le hlt4 hb5.size
  clear hb5 hB4 hlt4
  go_wp2_with fail
  refine (through_sane2 _).mono ?_
  rintro e w6 ⟨rfl, hb6⟩
  have hB6 := bthen hB5 hb6
  replace hc0 := (hb6.cell (p := ⟨g0, 0, none⟩) hlt5).trans hc0
  replace hc1 := (hb6.cell (p := ⟨g0, 1, none⟩) hlt5).trans hc1
  have hlt6 := Nat.lt_of_lt_of_le hlt5 hb6.size
  clear hb6 hB5 hlt5
  go_wp2_with fail
  refine (coefs_sane2 _).mono ?_
  rintro e w7 ⟨rfl, hb7⟩
  have hB7 := bthen hB6 hb7
  replace hc0 := (hb7.cell (p := ⟨g0, 0, none⟩) hlt6).trans hc0
  replace hc1 := (hb7.cell (p := ⟨g0, 1, none⟩) hlt6).trans hc1
  have hlt7 := Nat.lt_of_lt_of_le hlt6 hb7.size
  clear hb7 hB6 hlt6
  go_wp2_with fail
  refine (mul_lit 2#8 128#8 _ _ 27 rfl rfl (by decide +kernel) _).mono ?_
  rintro e w8 ⟨rfl, hb8⟩
  go_wp2_with fail
  refine (mul_lit 83#8 202#8 _ _ 1 rfl rfl (by decide +kernel) _).mono ?_
  rintro e w9 ⟨rfl, hb9⟩
  replace hc0 := ((bthen hb8 hb9).cell (p := ⟨g0, 0, none⟩) hlt7).trans hc0
  replace hc1 := ((bthen hb8 hb9).cell (p := ⟨g0, 1, none⟩) hlt7).trans hc1
  have hlt9 := Nat.lt_of_lt_of_le hlt7 (bthen hb8 hb9).size
  have hB9 := bthen hB7 (bthen hb8 hb9)
  clear hb8 hb9 hlt7 hB7
  have cv1 := conv_two w9 g0 cl _ _ hc0 hc1
  have cv2 := conv_two (w9.alloc (.cells #[.int .u8 5, .int .u8 0] 5)) w9.heap.size 2 5 0 (by rw [cell_new _ _ _ _ _ _ rfl]; rfl) (by rw [cell_new _ _ _ _ _ _ rfl]; rfl)
  generalize strOfNums [5, 0] = S at *
  have hB10 := balloc hB9 (.cells #[.int .u8 5, .int .u8 0] 5)
  clear hB9
  go_wp2_with fail
  refine (eval_nil _).mono ?_
  rintro e w11 ⟨rfl, hb11⟩
  have hB11 := bthen hB10 hb11
  clear hb11 hB10
  go_wp2_with fail
  refine (eval_sane _).mono ?_
  rintro e w12 ⟨rfl, hb12⟩
  have hB12 := bthen hB11 hb12
  clear hb12 hB11
  go_wp2_with fail
  go_ret
  exact ⟨rfl, hB12⟩
end Go.Proofs.Ytillfbohengpaaa
