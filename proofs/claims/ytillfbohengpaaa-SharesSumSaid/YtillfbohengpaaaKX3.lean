/-
  Texts of this session and laid words, merged in their order and pruned: SaneS, Ralike, RalikeS, PAtestamurref08alike, PAtestamurref08Check, PAtestamurref08points, Ax, RefMul, PAtestamurref07Mul, PAtestamurref07Points, PAtestamurref07Inv, PAtestamurref07over, Times, PAtestamurref07times, PAtestamurref07Coefficients, PAtestamurref08Explain, PAtestamurref07Eval.
-/
import Derived.Test.YtillfbohengpaaaKX2
import Derived.Test.YtillfbohengpaaaKX1
section
set_option linter.unusedVariables false
set_option linter.unusedSimpArgs false
namespace Go.Proofs.Ytillfbohengpaaa
open Go.RowKit Gf Go.Sort Go.Proofs.YtillfbohengpaaaW.PrintWords Go.Proofs.YtillfbohengpaaaW.PrintLast PA
def M3 : List Sh := [⟨0, 1, 2, 3, [6#8]⟩, ⟨0, 2, 2, 3, [3#8]⟩, ⟨0, 3, 2, 3, [0#8]⟩]
def L2 : List Sh := [⟨4, 1, 1, 2, [7#8]⟩, ⟨4, 2, 1, 2, [7#8]⟩]
def X3 : List Sh := [⟨1, 1, 2, 3, [6#8]⟩, ⟨1, 2, 2, 3, [3#8]⟩, ⟨1, 3, 2, 3, [0#8]⟩]
theorem m3_eq : splitTo [5#8] [3#8] 0 1 3 3 = M3 := by kernel_rfl
theorem l2_eq : splitTo [7#8] [] 4 0 2 2 = L2 := by kernel_rfl
theorem x3_eq : refreshR M3 [0#8] = X3 := by kernel_rfl
theorem x3_e : refreshE M3 [0#8] = 0 := by kernel_rfl
theorem j_nil : joinR [] = [] ∧ joinE [] = 80 := ⟨by kernel_rfl, by kernel_rfl⟩
theorem j_m : joinR (M3.drop 1) = [5#8] := by kernel_rfl
theorem j_m_e : joinE (M3.drop 1) = 0 := by kernel_rfl
theorem j_mix_e : joinE [⟨0, 1, 2, 3, [6#8]⟩, ⟨1, 2, 2, 3, [3#8]⟩] = 81 := by kernel_rfl
theorem x_m : shares_Explain.f 60 (M3.map sI) [1] = some ([], 80) := by kernel_rfl
theorem x_m1 : shares_Explain.f 60 ((M3.take 1).map sI) [9] = some ([15], 0) := by kernel_rfl
theorem S_sh {w : World} {base : Nat} {ok : Nat → Prop} {v : Value} {L : List Sh} (h : Kd.S k52 52 w base ok v (L.map sI)) (hp : 0 < L.length) : ∃ g cap, v = .slice (some ⟨g, 0, none⟩) L.length cap ∧ L.length ≤ cap ∧ Kd.C k52 w (some ⟨g, 0, none⟩) L.length (L.map sI) := by
  obtain ⟨g, cap, rfl, _⟩ := Kd.S_form h (by rwa [List.length_map])
  obtain ⟨_, h1, h2⟩ := Kd.S_reads' h
  rw [List.length_map] at h1 h2 ⊢
  exact ⟨g, cap, rfl, h1, h2⟩
theorem lit1 (w : World) (x : G) : RL gv (w.alloc (.cells #[gv x] 5)) (some ⟨w.heap.size, 0, none⟩) 1 [x] := RL.lit w _ [x] 1 rfl rfl (by omega)
theorem lit2 (w : World) (x y z : G) : RL gv ((w.alloc (.cells #[gv x, gv y] 5)).alloc (.cells #[gv z] 5)) (some ⟨w.heap.size, 0, none⟩) 2 [x, y] ∧ RL gv ((w.alloc (.cells #[gv x, gv y] 5)).alloc (.cells #[gv z] 5)) (some ⟨w.heap.size + 1, 0, none⟩) 1 [z] := by
  refine ⟨(RL.lit w _ [x, y] 2 rfl rfl (by omega)).below (below_alloc1 _ _), ?_⟩
  have := lit1 (w.alloc (.cells #[gv x, gv y] 5)) z
  rwa [show (w.alloc (.cells #[gv x, gv y] 5)).heap.size = w.heap.size + 1 by simp] at this
theorem lit11 (w : World) (x z : G) : RL gv ((w.alloc (.cells #[gv x] 5)).alloc (.cells #[gv z] 5)) (some ⟨w.heap.size, 0, none⟩) 1 [x] ∧ RL gv ((w.alloc (.cells #[gv x] 5)).alloc (.cells #[gv z] 5)) (some ⟨w.heap.size + 1, 0, none⟩) 1 [z] := by
  refine ⟨(lit1 w x).below (below_alloc1 _ _), ?_⟩
  have := lit1 (w.alloc (.cells #[gv x] 5)) z
  rwa [show (w.alloc (.cells #[gv x] 5)).heap.size = w.heap.size + 1 by simp] at this
theorem conv1 (w : World) (A : Option Addr) (c : Nat) (x : G) (S : ByteArray) (h : RL gv w A 1 [x]) (hS : strOfNums [tI x] = S) : (convert 30 9 (.slice A 1 c)).run Try.prog w = .ok (.string S) w := by
  obtain ⟨b, o, rfl, _, hc⟩ := h.at 0 (by omega)
  subst hS
  refine run_convert_bytes_arg w _ _ slice_u8 und_u8 b o 1 c [tI x] rfl (fun i hi => ?_) _ und_str
  match i, hi with
  | 0, _ => simpa [tI] using hc
theorem R_one {w : World} {base : Nat} {ok : Nat → Prop} {v : Value} (x : G) (h : Kd.R (Kd.int .u8) 5 w base ok v ([x].map tI)) : ∃ A c, v = .slice A 1 c ∧ RL gv w A 1 [x] := (own_of_R h).rl
theorem C_cells {w : World} {b o n i : Nat} {L : List Sh} (h : Kd.C k52 w (some ⟨b, o, none⟩) n (L.map sI)) (hi : i < L.length) (s : Sh) (hs : L[i] = s) : ∃ A c, w.cell? ⟨b, o + i * 5, none⟩ = some (.int .i64 s.ep) ∧ w.cell? ⟨b, o + i * 5 + 1, none⟩ = some (.int .i64 s.ix) ∧ w.cell? ⟨b, o + i * 5 + 2, none⟩ = some (.int .i64 s.th) ∧
    w.cell? ⟨b, o + i * 5 + 3, none⟩ = some (.int .i64 s.mn) ∧ w.cell? ⟨b, o + i * 5 + 4, none⟩ = some (.slice A s.da.length c) ∧ s.da.length ≤ c ∧ RL gv w A s.da.length s.da := by
  have hn : L.length = n := by have := h.1; rwa [List.length_map] at this
  have := at_T52 h (i : Int) (by omega) (by omega)
  rw [rdT_map L i hi, hs, Int.toNat_natCast] at this
  obtain ⟨ad, A, c, e, g0, g1, g2, g3, g4, g5, g6⟩ := this
  injection e with e; subst e
  rw [add_at] at g0 g1 g2 g3 g4
  rw [show (sI s).f4.length = s.da.length from by simp [sI]] at g4 g5 g6
  exact ⟨A, c, g0, g1, g2, g3, g4, g5, rl_of_C g6⟩
theorem C_two {w : World} {s t : Sh} {A B : Option Addr} {c d : Nat} (hc : s.da.length ≤ c) (hd : t.da.length ≤ d) (hA : RL gv w A s.da.length s.da) (hB : RL gv w B t.da.length t.da) :
    Kd.C k52 (w.alloc (.cells #[.int .i64 s.ep, .int .i64 s.ix, .int .i64 s.th, .int .i64 s.mn, .slice A s.da.length c, .int .i64 t.ep, .int .i64 t.ix, .int .i64 t.th, .int .i64 t.mn, .slice B t.da.length d] 52)) (some ⟨w.heap.size, 0, none⟩) 2 ([s, t].map sI) := by
  refine ⟨rfl, by omega, fun _ => ⟨_, rfl, fun j p hj => ?_⟩⟩
  have hb := below_alloc1 w (.cells #[.int .i64 s.ep, .int .i64 s.ix, .int .i64 s.th, .int .i64 s.mn, .slice A s.da.length c, .int .i64 t.ep, .int .i64 t.ix, .int .i64 t.th, .int .i64 t.mn, .slice B t.da.length d] 52)
  have mk : ∀ (u : Sh) (C : Option Addr) (e : Nat), u.da.length ≤ e → RL gv w C u.da.length u.da → k52.K _ (sI u) [.int .i64 u.ep, .int .i64 u.ix, .int .i64 u.th, .int .i64 u.mn, .slice C u.da.length e] := fun u C e he hC => by
    have := k52_mk _ (sI u) (A4 := C) (c4 := e) (by simpa [sI] using he) (by rw [show (sI u).f4.length = u.da.length from by simp [sI]]; exact C_of_rl (hC.below hb))
    rw [show (sI u).f4.length = u.da.length from by simp [sI]] at this
    exact this
  match j, hj with
  | 0, hj =>
    obtain rfl : sI s = p := by simpa using hj
    refine ⟨_, rfl, mk s A c hc hA, fun i u hu => ?_⟩
    rw [add_at, cell_new _ _ _ _ _ _ rfl]
    match i, hu with
    | 0, hu => exact hu
    | 1, hu => exact hu
    | 2, hu => exact hu
    | 3, hu => exact hu
    | 4, hu => exact hu
    | i + 5, hu => simp at hu
  | 1, hj =>
    obtain rfl : sI t = p := by simpa using hj
    refine ⟨_, rfl, mk t B d hd hB, fun i u hu => ?_⟩
    rw [add_at, cell_new _ _ _ _ _ _ rfl]
    match i, hu with
    | 0, hu => exact hu
    | 1, hu => exact hu
    | 2, hu => exact hu
    | 3, hu => exact hu
    | 4, hu => exact hu
    | i + 5, hu => simp at hu
  | j + 2, hj => simp at hj
set_option maxRecDepth 100000 in
set_option maxHeartbeats 4000000 in
theorem sane_s (w : World) : Calls Try.prog 23 #[] w fun e w' => e = .returned (.bool true) ∧ Below w.heap.size w w' := by
  go_enter Try.func23, Try.ntmps23
  go_wp2_with fail
  refine (join_u none 0 0 [] w ⟨rfl, by omega, fun h => by omega⟩ (by omega)).mono ?_
  rintro e w1 ⟨⟨v1, rfl, hv1⟩, hb1⟩
  rw [j_nil.2]
  clear hv1
  go_wp2_with fail
  obtain ⟨h1, h2⟩ := lit2 w1 1#8 2#8 1#8
  refine (split_bad _ _ 2 2 1 1 _ _ 0 2 3 _ h1 h2 (by omega) (by omega) 1 (by kernel_rfl) (by omega)).mono ?_
  rintro e w2 ⟨⟨v2, rfl, hv2⟩, hb2⟩
  have hB2 := bthen hb1 (bthen (balloc (below_alloc1 w1 _) _) hb2)
  clear hv2 h1 h2 hb2 hb1
  go_wp2_with fail
  refine (split_ok _ none 1 1 0 0 2 0 _ [] 4 _ (lit1 w2 7#8) (RL.nil _ _ _) (by omega) (by omega) (by omega) (by omega) (by omega) (by omega) (by omega)).mono ?_
  rintro e w3 ⟨⟨v3, rfl, hv3⟩, hb3⟩
  rw [l2_eq] at hv3
  obtain ⟨gl, cl, rfl, hcl, hL⟩ := S_sh hv3 (by decide)
  have hB3 := bthen hB2 (bthen (below_alloc1 w2 _) hb3)
  clear hv3 hb3 hB2
  have HL := Lib.hid hL
  clear hL
  rw [show L2.length = 2 from rfl] at *
  go_wp2_with fail
  obtain ⟨h1, h2⟩ := lit11 w3 5#8 3#8
  refine (split_ok _ _ 1 1 1 1 3 1 _ _ 0 _ h1 h2 (by omega) (by omega) (by omega) (by omega) (by omega) (by omega) (by omega)).mono ?_
  rintro e w4 ⟨⟨v4, rfl, hv4⟩, hb4⟩
  rw [m3_eq] at hv4
  obtain ⟨gm, cm, rfl, hcm, hM⟩ := S_sh hv4 (by decide)
  have hb34 := bthen (balloc (below_alloc1 w3 _) _) hb4
  have hB4 := bthen hB3 hb34
  replace HL := Lib.hid (Kd.C_below HL.out hb34)
  clear hv4 hb4 hB3 h1 h2 hb34
  have HM := Lib.hid hM
  clear hM
  rw [show M3.length = 3 from rfl] at *
  have hcm1 : ¬ cm = 1 := by omega
  go_wp2_with fail
  have hd : Kd.C k52 w4 (some ⟨gm, 5, none⟩) 2 ((M3.drop 1).map sI) := by
    have h := Kd.C_drop (m := 1) (c := cm) (k := k52) (xs := M3.map sI) HM.out (by decide) hcm
    rw [if_neg hcm1] at h
    exact h
  refine (join_u _ 2 _ (M3.drop 1) w4 hd (by omega)).mono ?_
  rintro e w5 ⟨⟨v5, rfl, hv5⟩, hb5⟩
  rw [j_m_e]
  rw [j_m] at hv5
  have hB5 := bthen hB4 hb5
  replace HL := Lib.hid (Kd.C_below HL.out hb5)
  replace HM := Lib.hid (Kd.C_below HM.out hb5)
  have HS := Lib.hid hv5
  clear hb5 hB4 hd hv5
  go_wp2_with fail
  have hx1 := shares_Explain.calls 60 (some ⟨gm, 0, none⟩) cm (M3.map sI) (some ⟨w5.heap.size, 0, none⟩) 1 [1] [] 80 (w5.alloc (.cells #[.int .u8 1] 5)) (Kd.C_below HM.out (below_alloc1 _ _)) hcm (C_of_rl (lit1 w5 1#8)) (by decide) x_m
  refine hx1.mono ?_
  rintro e w6 ⟨v6, rfl, hv6, hb6⟩
  have hb56 := bthen (below_alloc1 w5 _) hb6
  have hB6 := bthen hB5 hb56
  replace HL := Lib.hid (Kd.C_below HL.out hb56)
  replace HM := Lib.hid (Kd.C_below HM.out hb56)
  replace HS := Lib.hid (Kd.R_below HS.out hb56)
  clear hb56 hb6 hB5 hv6 hx1
  go_wp2_with fail
  refine (refresh_u _ _ 3 cm 1 1 M3 [0#8] _ (Kd.C_below HM.out (below_alloc1 _ _)) hcm (lit1 w6 0#8) (by omega) (by omega)).mono ?_
  rintro e w7 ⟨⟨v7, rfl, hv7⟩, hb7⟩
  rw [x3_e]
  rw [x3_eq] at hv7
  obtain ⟨gx_, cx, rfl, hcx, hX⟩ := S_sh hv7 (by decide)
  have hb67 := bthen (below_alloc1 w6 _) hb7
  have hB7 := bthen hB6 hb67
  replace HL := Lib.hid (Kd.C_below HL.out hb67)
  replace HM := Lib.hid (Kd.C_below HM.out hb67)
  replace HS := Lib.hid (Kd.R_below HS.out hb67)
  have HX := Lib.hid hX
  clear hb67 hb7 hB6 hv7 hX
  rw [show X3.length = 3 from rfl] at *
  go_wp2_with fail
  have hx2 := shares_Explain.calls 60 (some ⟨gm, 0, none⟩) cm ((M3.take 1).map sI) (some ⟨w7.heap.size, 0, none⟩) 1 [9] [15] 0 (w7.alloc (.cells #[.int .u8 9] 5)) (Kd.C_below (Kd.C_take (k := k52) (xs := M3.map sI) (m := 1) HM.out (by decide)) (below_alloc1 _ _)) (by show 1 ≤ cm; omega) (C_of_rl (lit1 w7 9#8)) (by decide) x_m1
  refine hx2.mono ?_
  rintro e w8 ⟨v8, rfl, hv8, hb8⟩
  have hb78 := bthen (below_alloc1 w7 _) hb8
  have hB8 := bthen hB7 hb78
  replace HL := Lib.hid (Kd.C_below HL.out hb78)
  replace HM := Lib.hid (Kd.C_below HM.out hb78)
  replace HX := Lib.hid (Kd.C_below HX.out hb78)
  replace HS := Lib.hid (Kd.R_below HS.out hb78)
  have HC := Lib.hid hv8
  clear hb78 hb8 hB7 hv8 hx2
  go_wp2_with fail
  obtain ⟨A0, c0, m0, m1, m2, m3, m4, m5, m6⟩ := C_cells HM.out (i := 0) (by decide) ⟨0, 1, 2, 3, [6#8]⟩ rfl
  obtain ⟨A1, c1, y0, y1, y2, y3, y4, y5, y6⟩ := C_cells HX.out (i := 1) (by decide) ⟨1, 2, 2, 3, [3#8]⟩ rfl
  simp only [Nat.zero_mul, Nat.zero_add, Nat.one_mul, Nat.add_zero, Nat.reduceAdd, List.length_cons, List.length_nil] at m0 m1 m2 m3 m4 m5 m6 y0 y1 y2 y3 y4 y5 y6
  have HS1 : Hid (∀ w', Below w8.heap.size w8 w' → w'.cell? ⟨gm, 0, none⟩ = some (.int .i64 0) ∧ w'.cell? ⟨gm, 1, none⟩ = some (.int .i64 1) ∧ w'.cell? ⟨gm, 2, none⟩ = some (.int .i64 2) ∧ w'.cell? ⟨gm, 3, none⟩ = some (.int .i64 3) ∧ w'.cell? ⟨gm, 4, none⟩ = some (.slice A0 1 c0) ∧
      w'.cell? ⟨gx_, 5, none⟩ = some (.int .i64 1) ∧ w'.cell? ⟨gx_, 6, none⟩ = some (.int .i64 2) ∧ w'.cell? ⟨gx_, 7, none⟩ = some (.int .i64 2) ∧ w'.cell? ⟨gx_, 8, none⟩ = some (.int .i64 3) ∧ w'.cell? ⟨gx_, 9, none⟩ = some (.slice A1 1 c1)) :=
    fun w' hb => ⟨pw_cell_below hb m0, pw_cell_below hb m1, pw_cell_below hb m2, pw_cell_below hb m3, pw_cell_below hb m4, pw_cell_below hb y0, pw_cell_below hb y1, pw_cell_below hb y2, pw_cell_below hb y3, pw_cell_below hb y4⟩
  have hbd : Below w8.heap.size w8 w8.drew := below_drew (Below.refl _ _)
  refine start_ (n := 13) (S := fun w' => w'.cell? ⟨gm, 0, none⟩ = some (.int .i64 0) ∧ w'.cell? ⟨gm, 1, none⟩ = some (.int .i64 1) ∧ w'.cell? ⟨gm, 2, none⟩ = some (.int .i64 2) ∧ w'.cell? ⟨gm, 3, none⟩ = some (.int .i64 3) ∧ w'.cell? ⟨gm, 4, none⟩ = some (.slice A0 1 c0) ∧
      w'.cell? ⟨gx_, 5, none⟩ = some (.int .i64 1) ∧ w'.cell? ⟨gx_, 6, none⟩ = some (.int .i64 2) ∧ w'.cell? ⟨gx_, 7, none⟩ = some (.int .i64 2) ∧ w'.cell? ⟨gx_, 8, none⟩ = some (.int .i64 3) ∧ w'.cell? ⟨gx_, 9, none⟩ = some (.slice A1 1 c1)) (ds := []) #[false, false, false, false, false, false, false, false, false, false, false, false, false] (by kernel_rfl) rfl rfl (HS1.out _ hbd) (fun hHeld => ?_)
  clear m0 m1 m2 m3 m4 y0 y1 y2 y3 y4
  generalize w8.drew = wd at *
  refine pure_ (i := 0) (N := some 110) (v := ?_) (a' := ?_) #[true, false, false, false, false, false, false, false, false, false, false, false, false] rfl rfl (by kernel_rfl) (fun _ _ _ h => h) (Or.inl ⟨by rfl, ?_⟩) ?_ ?_
  rotate_left
  · intro w'
    go_simp
    with_reducible rfl
  rotate_left
  · simp only [Act.put, List.setIfInBounds_toArray, List.set_cons_zero, List.set_cons_succ]
    rfl
  refine pure_ (i := 1) (N := some 111) (v := ?_) (a' := ?_) #[true, true, false, false, false, false, false, false, false, false, false, false, false] rfl rfl (by kernel_rfl) (fun _ _ _ h => h) (Or.inl ⟨by rfl, ?_⟩) ?_ ?_
  rotate_left
  · intro w'
    go_simp
    with_reducible rfl
  rotate_left
  · simp only [Act.put, List.setIfInBounds_toArray, List.set_cons_zero, List.set_cons_succ]
    rfl
  refine take_ (i := 2) (N := some 112) (v := ?_) (a' := ?_) #[true, true, true, false, false, false, false, false, false, false, false, false, false] rfl rfl (by kernel_rfl) (fun _ _ _ h => h) (Or.inl ⟨by rfl, ?_⟩) hHeld ?_ ?_
  rotate_left
  · intro w' hs
    obtain ⟨s0, s1, s2, s3, s4, s5, s6, s7, s8, s9⟩ := hs; go_simp
    with_reducible rfl
  rotate_left
  · simp only [Act.put, List.setIfInBounds_toArray, List.set_cons_zero, List.set_cons_succ]
    rfl
  refine pure_ (i := 3) (N := some 113) (v := ?_) (a' := ?_) #[true, true, true, true, false, false, false, false, false, false, false, false, false] rfl rfl (by kernel_rfl) (fun _ _ _ h => h) (Or.inl ⟨by rfl, ?_⟩) ?_ ?_
  rotate_left
  · intro w'
    go_simp
    with_reducible rfl
  rotate_left
  · simp only [Act.put, List.setIfInBounds_toArray, List.set_cons_zero, List.set_cons_succ]
    rfl
  refine pure_ (i := 4) (N := some 114) (v := ?_) (a' := ?_) #[true, true, true, true, true, false, false, false, false, false, false, false, false] rfl rfl (by kernel_rfl) (fun _ _ _ h => h) (Or.inl ⟨by rfl, ?_⟩) ?_ ?_
  rotate_left
  · intro w'
    go_simp
    with_reducible rfl
  rotate_left
  · simp only [Act.put, List.setIfInBounds_toArray, List.set_cons_zero, List.set_cons_succ]
    rfl
  refine take_ (i := 5) (N := some 115) (v := ?_) (a' := ?_) #[true, true, true, true, true, true, false, false, false, false, false, false, false] rfl rfl (by kernel_rfl) (fun _ _ _ h => h) (Or.inl ⟨by rfl, ?_⟩) hHeld ?_ ?_
  rotate_left
  · intro w' hs
    obtain ⟨s0, s1, s2, s3, s4, s5, s6, s7, s8, s9⟩ := hs; go_simp
    with_reducible rfl
  rotate_left
  · simp only [Act.put, List.setIfInBounds_toArray, List.set_cons_zero, List.set_cons_succ]
    rfl
  refine one_ (i := 6) (N := some 116) #[true, true, true, true, true, true, true, false, false, false, false, false, false] rfl rfl (by kernel_rfl) (by decide) (fun K hK => ?_)
  refine event_step (w1 := wd.alloc (.cells #[.int .i64 0, .int .i64 1, .int .i64 2, .int .i64 3, .slice A0 1 c0, .int .i64 1, .int .i64 2, .int .i64 2, .int .i64 3, .slice A1 1 c1] 52)) (v := .slice (some ⟨wd.heap.size, 0, none⟩) 2 2) (by rfl) (by first | (go_simp; done) | (go_simp; rfl)) ?_
  have hC2 := C_two (w := wd) (s := ⟨0, 1, 2, 3, [6#8]⟩) (t := ⟨1, 2, 2, 3, [3#8]⟩) m5 y5 (m6.below hbd) (y6.below hbd)
  have hb9 := bthen hbd (below_alloc1 wd (.cells #[.int .i64 0, .int .i64 1, .int .i64 2, .int .i64 3, .slice A0 1 c0, .int .i64 1, .int .i64 2, .int .i64 2, .int .i64 3, .slice A1 1 c1] 52))
  refine hK.out _ _ (HS1.out _ hb9) (fun hx_ => ?_)
  clear hK K hx_
  refine norm_ (a' := ?_) ?_ ?_
  rotate_left
  · show Act.put _ (some 116) _ = _
    simp only [Act.put, List.setIfInBounds_toArray, List.set_cons_zero, List.set_cons_succ]
    rfl
  refine one_ (i := 7) (N := some 117) #[true, true, true, true, true, true, true, true, false, false, false, false, false] rfl rfl (by kernel_rfl) (by decide) (fun K hK => ?_)
  refine goes_ Try.func30 (by kernel_rfl) rfl #[.slice (some ⟨wd.heap.size, 0, none⟩) 2 2] (by rfl) rfl rfl (by simp [Act.eval]) ?_
  refine (join_u _ 2 2 [⟨0, 1, 2, 3, [6#8]⟩, ⟨1, 2, 2, 3, [3#8]⟩] _ hC2 (by omega)).mono ?_
  rintro e w9 ⟨⟨v9, rfl, hv9⟩, hb9'⟩
  rw [j_mix_e]
  refine ⟨_, rfl, ?_⟩
  have hb89 := bthen hb9 hb9'
  refine hK.out _ _ (HS1.out _ hb89) (fun hx_ => ?_)
  clear hK K hx_
  refine norm_ (a' := ?_) ?_ ?_
  rotate_left
  · show Act.put _ (some 117) _ = _
    simp only [Act.put, List.setIfInBounds_toArray, List.set_cons_zero, List.set_cons_succ]
    rfl
  refine pure_ (i := 8) (N := some 109) (v := ?_) (a' := ?_) #[true, true, true, true, true, true, true, true, true, false, false, false, false] rfl rfl (by kernel_rfl) (fun _ _ _ h => h) (Or.inl ⟨by rfl, ?_⟩) ?_ ?_
  rotate_left
  · intro w'
    go_simp
    with_reducible rfl
  rotate_left
  · simp only [Act.put, List.setIfInBounds_toArray, List.set_cons_zero, List.set_cons_succ]
    rfl
  refine pure_ (i := 9) (N := some 118) (v := ?_) (a' := ?_) #[true, true, true, true, true, true, true, true, true, true, false, false, false] rfl rfl (by kernel_rfl) (fun _ _ _ h => h) (Or.inl ⟨by rfl, ?_⟩) ?_ ?_
  rotate_left
  · intro w'
    go_simp
    with_reducible rfl
  rotate_left
  · simp only [Act.put, List.setIfInBounds_toArray, List.set_cons_zero, List.set_cons_succ]
    rfl
  refine pure_ (i := 10) (N := some 119) (v := ?_) (a' := ?_) #[true, true, true, true, true, true, true, true, true, true, true, false, false] rfl rfl (by kernel_rfl) (fun _ _ _ h => h) (Or.inl ⟨by rfl, ?_⟩) ?_ ?_
  rotate_left
  · intro w'
    go_simp
    with_reducible rfl
  rotate_left
  · simp only [Act.put, List.setIfInBounds_toArray, List.set_cons_zero, List.set_cons_succ]
    rfl
  refine pure_ (i := 11) (N := some 17) (v := ?_) (a' := ?_) #[true, true, true, true, true, true, true, true, true, true, true, true, false] rfl rfl (by kernel_rfl) (fun _ _ _ h => h) (Or.inl ⟨by rfl, ?_⟩) ?_ ?_
  rotate_left
  · intro w'
    go_simp
    with_reducible rfl
  rotate_left
  · simp only [Act.put, List.setIfInBounds_toArray, List.set_cons_zero, List.set_cons_succ]
    rfl
  refine pure_ (i := 12) (N := some 18) (v := ?_) (a' := ?_) #[true, true, true, true, true, true, true, true, true, true, true, true, true] rfl rfl (by kernel_rfl) (fun _ _ _ h => h) (Or.inl ⟨by rfl, ?_⟩) ?_ ?_
  rotate_left
  · intro w'
    go_simp
    with_reducible rfl
  rotate_left
  · simp only [Act.put, List.setIfInBounds_toArray, List.set_cons_zero, List.set_cons_succ]
    rfl
  refine done_ (by kernel_rfl) ?_
  have hB9 := bthen hB8 hb89
  replace HL := Lib.hid (Kd.C_below HL.out hb89)
  replace HM := Lib.hid (Kd.C_below HM.out hb89)
  replace HX := Lib.hid (Kd.C_below HX.out hb89)
  replace HS := Lib.hid (Kd.R_below HS.out hb89)
  replace HC := Lib.hid (Kd.R_below HC.out hb89)
  clear hv9 hb89 hb9' hC2 m6 y6 HS1 hbd hHeld hb9
  obtain ⟨a0, b0, p0, p1, _, _, p4, _, p6⟩ := C_cells HL.out (i := 1) (by decide) ⟨4, 2, 1, 2, [7#8]⟩ rfl
  obtain ⟨a1, b1, _, _, _, _, q4, _, q6⟩ := C_cells HM.out (i := 0) (by decide) ⟨0, 1, 2, 3, [6#8]⟩ rfl
  obtain ⟨a2, b2, _, _, _, _, r4, _, r6⟩ := C_cells HM.out (i := 1) (by decide) ⟨0, 2, 2, 3, [3#8]⟩ rfl
  obtain ⟨a3, b3, _, _, _, _, t4, _, t6⟩ := C_cells HM.out (i := 2) (by decide) ⟨0, 3, 2, 3, [0#8]⟩ rfl
  obtain ⟨a4, b4, z0, _, _, _, z4, _, z6⟩ := C_cells HX.out (i := 2) (by decide) ⟨1, 3, 2, 3, [0#8]⟩ rfl
  obtain ⟨a5, b5, rfl, s6⟩ := R_one 5#8 HS.out
  obtain ⟨a6, b6, rfl, c6⟩ := R_one 15#8 HC.out
  simp only [Nat.zero_mul, Nat.zero_add, Nat.one_mul, Nat.add_zero, Nat.reduceAdd, Nat.reduceMul, List.length_cons, List.length_nil] at p0 p1 p4 p6 q4 q6 r4 r6 t4 t6 z0 z4 z6
  have v0 := conv1 w9 a0 b0 7#8 ⟨#[7]⟩ p6 rfl
  have v1' := conv1 w9 a1 b1 6#8 ⟨#[6]⟩ q6 rfl
  have v2' := conv1 w9 a2 b2 3#8 ⟨#[3]⟩ r6 rfl
  have v3 := conv1 w9 a3 b3 0#8 ⟨#[0]⟩ t6 rfl
  have v4 := conv1 w9 a4 b4 0#8 ⟨#[0]⟩ z6 rfl
  have v5' := conv1 w9 a5 b5 5#8 ⟨#[5]⟩ s6 rfl
  have v6' := conv1 w9 a6 b6 15#8 ⟨#[15]⟩ c6 rfl
  clear p6 q6 r6 t6 z6 s6 c6
  go_wp2_with fail
  go_ret
  exact ⟨rfl, hB9⟩
end Go.Proofs.Ytillfbohengpaaa
end
section
set_option linter.unusedVariables false
set_option linter.unusedSimpArgs false
namespace Go.Proofs.Ytillfbohengpaaa
open Go.RowKit Gf Go.Sort
set_option maxRecDepth 100000 in
set_option maxHeartbeats 2000000 in
theorem ralike_u (A : Option Addr) (c n : Nat) (a : Sh) (r : List Sh) (w : World) (h : RS w A n (a :: r)) :
    Calls Try.prog 47 #[.slice A n c] w fun e w' => e = .returned (.bool (headB a && chainB a 0 (a :: r))) ∧ Below w.heap.size w w' := by
  have hn0 : 0 < n := by have := h.1; simp at this; omega
  obtain ⟨b, o, rfl, hb, hc⟩ := h.at 0 hn0
  simp only [List.getElem_cons_zero, Nat.zero_mul, Nat.add_zero] at hc
  obtain ⟨c0, c1, c2, c3, Ad, nd, cd, c4, hda⟩ := hc
  have hz : ((n : Int) == 0) = false := by rw [beq_eq_false_iff_ne]; omega
  have hni : (0 : Int) < (n : Int) := by omega
  obtain ⟨F0, F1, F2, F3, F4, hBN, hltN⟩ := share_new w (.int .i64 a.ep) (.int .i64 a.ix) (.int .i64 a.th) (.int .i64 a.mn) (.slice Ad nd cd) 52
  by_cases h1 : 1 ≤ a.th
  case neg =>
    have hh : headB a = false := by simp [headB, h1]
    rw [hh]
    have d1 : a.th < 1 := by omega
    go_enter Try.func47, Try.ntmps47
    go_wp2_with fail
    go_ret
    exact ⟨rfl, hBN⟩
  have d1 : decide (a.th < 1) = false := decide_eq_false (by omega)
  by_cases h2 : a.th ≤ a.mn
  case neg =>
    have hh : headB a = false := by simp [headB, h2]
    rw [hh]
    have d2 : a.mn < a.th := by omega
    go_enter Try.func47, Try.ntmps47
    go_wp2_with fail
    go_ret
    exact ⟨rfl, hBN⟩
  have d2 : decide (a.mn < a.th) = false := decide_eq_false (by omega)
  by_cases h3 : a.mn ≤ 8
  case neg =>
    have hh : headB a = false := by simp [headB, h3]
    rw [hh]
    have d3 : 8 < a.mn := by omega
    go_enter Try.func47, Try.ntmps47
    go_wp2_with fail
    go_ret
    exact ⟨rfl, hBN⟩
  have d3 : decide (8 < a.mn) = false := decide_eq_false (by omega)
  by_cases h4 : nd ≤ 64
  case neg =>
    have hh : headB a = false := by simp [headB, hda.1, h4]
    rw [hh]
    have d4 : (64 : Int) < (nd : Int) := by omega
    go_enter Try.func47, Try.ntmps47
    go_wp2_with fail
    go_ret
    exact ⟨rfl, hBN⟩
  have d4 : decide ((64 : Int) < (nd : Int)) = false := decide_eq_false (by omega)
  have hh : headB a = true := by simp [headB, h1, h2, h3, hda.1, h4]
  rw [hh, Bool.true_and]
  go_enter Try.func47, Try.ntmps47
  go_wp2_with fail
  clear d1 d2 d3 d4 h1 h2 h3 h4 hh
  generalize hWN : w.alloc _ = WN at *
  clear hWN
  generalize hGN : w.heap.size = GN at *
  go_loopw [4, 5] (fun si _ wr => ∃ (k : Nat) (last : Int), k ≤ n ∧ si = .int .i64 k ∧ 0 ≤ last ∧ (k = 0 → last = 0) ∧ (∀ (h : 0 < k) (h2 : k - 1 < (a :: r).length), ((a :: r)[k - 1]).ix = last) ∧ Below GN w wr ∧ Below WN.heap.size WN wr ∧ Hid (chainB a 0 (a :: r) = chainB a last ((a :: r).drop k))) (fun si _ _ => n - (intOf si).toNat)
  case atStart => exact ⟨0, 0, by omega, rfl, by omega, fun _ => rfl, fun h => by omega, hBN, Below.refl _ _, rfl⟩
  case round =>
    obtain ⟨k, last, hk, rfl, hl0, hlz, hlp, hB, hBW, HC⟩ := hrel
    subst hGN
    by_cases hlt : k < n
    · obtain ⟨b', o', he, hb', hc'⟩ := (h.below hB).at k hlt
      obtain ⟨rfl, rfl⟩ : b' = b ∧ o' = o := by injection he with he; injection he with e1 e2; exact ⟨e1.symm, e2.symm⟩
      clear he
      generalize hs : (a :: r)[k]'(by rw [h.1]; exact hlt) = s at hc'
      have HS := Lib.hid hs; clear hs
      obtain ⟨e0, e1, e2, e3, As, ns, cs, e4, hds⟩ := hc'
      have hlt2 : (k : Int) < (n : Int) := by omega
      have hk63 : (k : Int) + 1 ≤ 9223372036854775807 := by have := h.2.1; omega
      have hw : wrap64 ((k : Int) + 1) = (k : Int) + 1 := by unfold wrap64; omega
      have hcons : (a :: r).drop k = s :: (a :: r).drop (k + 1) := by rw [← HS.out]; exact List.drop_eq_getElem_cons (by rw [h.1]; exact hlt)
      replace HC : Hid (chainB a 0 (a :: r) = chainB a last (s :: (a :: r).drop (k + 1))) := by rw [← hcons]; exact HC
      clear hcons
      have hprev : ∀ m, k = m + 1 → w.cell? ⟨b', o' + m * 5 + 1, none⟩ = some (.int .i64 last) := by
        intro m hm
        subst hm
        obtain ⟨b2, o2, he, hb2, hc2⟩ := h.at m (by omega)
        obtain ⟨rfl, rfl⟩ : b2 = b' ∧ o2 = o' := by injection he with he; injection he with e1 e2; exact ⟨e1.symm, e2.symm⟩
        have hi2 := hlp (by omega) (by rw [h.1]; omega)
        have h5 := hc2.2.1
        simp only [Nat.add_sub_cancel] at hi2
        rw [hi2] at h5
        exact h5
      have HL := Lib.hid hlp
      clear hlp
      go_wp2_with fail
      obtain ⟨f0, f1, f2, f3, f4, hbn, hlt1⟩ := share_new wr (.int .i64 s.ep) (.int .i64 s.ix) (.int .i64 s.th) (.int .i64 s.mn) (.slice As ns cs) 52
      have hB1 := hB.trans (hbn.mono hB.size)
      have hBW1 := bthen hBW hbn
      generalize hW1 : wr.alloc _ = W1 at *
      clear hW1
      generalize wr.heap.size = gn at *
      have G2 := (hBW1.cell (p := ⟨w.heap.size, 2, none⟩) hltN).trans F2
      have G3 := (hBW1.cell (p := ⟨w.heap.size, 3, none⟩) hltN).trans F3
      have G4 := (hBW1.cell (p := ⟨w.heap.size, 4, none⟩) hltN).trans F4
      have hprev1 : ∀ m, k = m + 1 → W1.cell? ⟨b', o' + m * 5 + 1, none⟩ = some (.int .i64 last) := fun m hm => (hB1.cell (p := ⟨b', o' + m * 5 + 1, none⟩) hb).trans (hprev m hm)
      have HP := Lib.hid hprev1
      clear hprev hprev1 e0 e1 e2 e3 e4 F0 F1 F2 F3 F4 c0 c1 c2 c3 c4 hbn hB hBW
      by_cases q1 : s.th = a.th
      case neg =>
        have hok : okAt a last s = false := by simp [okAt, q1]
        have d : (s.th == a.th) = false := by simp [q1]
        have d2 : (s.th != a.th) = true := by simp [q1]
        clear q1
        go_wp2_with fail
        go_quiet (fail)
        go_wp2_with fail
        go_ret
        exact ⟨by rw [chain_not _ _ _ _ _ HC.out hok]; rfl, bdrewN hB1 _⟩
      rw [q1] at f2
      by_cases q2 : s.mn = a.mn
      case neg =>
        have hok : okAt a last s = false := by simp [okAt, q2]
        have d : (s.mn == a.mn) = false := by simp [q2]
        have d2 : (s.mn != a.mn) = true := by simp [q2]
        clear q2
        go_wp2_with fail
        go_quiet (fail)
        go_wp2_with fail
        go_ret
        exact ⟨by rw [chain_not _ _ _ _ _ HC.out hok]; rfl, bdrewN hB1 _⟩
      rw [q2] at f3
      by_cases q3 : ns = nd
      case neg =>
        have hok : okAt a last s = false := by simp [okAt, hds.1, hda.1, q3]
        have d : ((ns : Int) == (nd : Int)) = false := by rw [beq_eq_false_iff_ne]; omega
        have d2 : ((ns : Int) != (nd : Int)) = true := by rw [bne, d]; rfl
        clear q3
        go_wp2_with fail
        go_quiet (fail)
        go_wp2_with fail
        go_ret
        exact ⟨by rw [chain_not _ _ _ _ _ HC.out hok]; rfl, bdrewN hB1 _⟩
      subst q3
      by_cases q4 : 1 ≤ s.ix
      case neg =>
        have hok : okAt a last s = false := by have : ¬ last < s.ix := by omega
                                               simp [okAt, this]
        have d : s.ix < 1 := by omega
        go_wp2_with fail
        go_quiet (fail)
        go_wp2_with fail
        go_ret
        exact ⟨by rw [chain_not _ _ _ _ _ HC.out hok]; rfl, bdrewN hB1 _⟩
      have d4 : decide (s.ix < 1) = false := decide_eq_false (by omega)
      by_cases q5 : s.ix ≤ a.mn
      case neg =>
        have hok : okAt a last s = false := by simp [okAt, q2, q5]
        have d : a.mn < s.ix := by omega
        go_wp2_with fail
        go_quiet (fail)
        go_wp2_with fail
        go_ret
        exact ⟨by rw [chain_not _ _ _ _ _ HC.out hok]; rfl, bdrewN hB1 _⟩
      have d5 : decide (a.mn < s.ix) = false := decide_eq_false (by omega)
      by_cases hk0 : 0 < k
      case neg =>
        have hok : okAt a last s = true := by
          rw [hlz (by omega)]
          have : (0 : Int) < s.ix := by omega
          simp [okAt, q1, q2, this, q5, hds.1, hda.1]
        have d0 : decide ((0 : Int) < (k : Int)) = false := decide_eq_false (by omega)
        have d0' : decide (0 < k) = false := decide_eq_false hk0
        have HK := Lib.hid hk0
        clear hk0
        go_wp2_with fail
        go_quiet (fail)
        go_wp2_with fail
        refine ⟨⟨k + 1, s.ix, by omega, by go_num, by omega, fun h => by omega, fun h1 h2 => ?_, bdrewN hB1 _, bdrewN hBW1 _, chain_step _ _ _ _ _ HC.out hok⟩, by simp [intOf]; omega⟩
        rw [← HS.out]
        rfl
      obtain ⟨m, hm⟩ : ∃ m, k = m + 1 := ⟨k - 1, by omega⟩
      have hpm := HP.out m hm
      have hmn : (m : Int) < (n : Int) := by omega
      have hmn2 : m < n := by omega
      have d0 : decide ((0 : Int) < (k : Int)) = true := decide_eq_true (by omega)
      have d0' : decide (0 < k) = true := decide_eq_true hk0
      have HW : Hid (IntKind.i64.wrap ((k : Int) - 1) = (m : Int)) := by
        show IntKind.i64.wrap ((k : Int) - 1) = (m : Int)
        rw [IntWalk.i64_in _ (by omega)]; omega
      have HM := Lib.hid hm
      clear hm hlz
      by_cases q6 : last < s.ix
      case neg =>
        have hok : okAt a last s = false := by simp [okAt, q6]
        have d : s.ix ≤ last := by omega
        have hwk := HW.out
        go_quiet (fail)
        clear hwk
        go_wp2_with fail
        go_ret
        exact ⟨by rw [chain_not _ _ _ _ _ HC.out hok]; rfl, bdrewN hB1 _⟩
      have d6 : decide (s.ix ≤ last) = false := decide_eq_false (by omega)
      have hok : okAt a last s = true := by simp [okAt, q1, q2, q6, q5, hds.1, hda.1]
      have hwk := HW.out
      go_quiet (fail)
      clear hwk
      go_wp2_with fail
      refine ⟨⟨k + 1, s.ix, by omega, by go_num, by omega, fun h => by omega, fun h1 h2 => ?_, bdrewN hB1 _, bdrewN hBW1 _, chain_step _ _ _ _ _ HC.out hok⟩, by simp [intOf]; omega⟩
      rw [← HS.out]
      rfl
    · obtain rfl : k = n := by omega
      go_wp2_with fail
      go_ret
      refine ⟨?_, hB⟩
      rw [HC.out, List.drop_eq_nil_of_le (by rw [h.1]; exact Nat.le_refl _)]
      rfl
end Go.Proofs.Ytillfbohengpaaa
end
section
set_option linter.unusedVariables false
set_option linter.unusedSimpArgs false
namespace Go.Proofs.Ytillfbohengpaaa
open Go.RowKit Gf
set_option maxRecDepth 100000 in
theorem ralike_nil (A : Option Addr) (c : Nat) (w : World) :
    Calls Try.prog 47 #[.slice A 0 c] w fun e w' => e = .returned (.bool false) ∧ Below w.heap.size w w' := by
  go_enter Try.func47, Try.ntmps47
  go_wp2_with fail
  go_ret
  exact ⟨rfl, Below.refl _ _⟩
theorem ralike_s (A : Option Addr) (n c : Nat) (L : List Sh) (w : World) (h : RS w A n L) : Calls Try.prog 47 #[.slice A n c] w fun e w' => e = .returned (.bool (alikeB L)) ∧ Below w.heap.size w w' := by
  cases L with
  | nil =>
    obtain rfl : n = 0 := by have := h.1; simpa using this.symm
    exact ralike_nil A c w
  | cons a r => exact ralike_u A c n a r w h
end Go.Proofs.Ytillfbohengpaaa
end
section
namespace Go.Proofs.Ytillfbohengpaaa.PA
open Go.RowKit Go.Proofs.YtillfbohengpaaaW.PrintWords Go.Proofs.YtillfbohengpaaaW.PrintLast Go.Proofs.YtillfbohengpaaaW.PrintMore
attribute [local go_sem] max2_int min2_int max_two min_two max_three min_three max_four min_four   -- for this text's walks alone
set_option linter.unusedVariables false
set_option linter.unusedSimpArgs false
def testamurref08_alike.f (l0 : List S52) : Option Bool := if okS l0 = true then some (alikeB (l0.map shG)) else none
theorem testamurref08_alike.calls (A0 : Option Addr) (c0 : Nat) (l0 : List S52) (r : Bool) (w : World) (hr0 : Kd.C k52 w A0 l0.length l0) (hc0 : l0.length ≤ c0) (h : testamurref08_alike.f l0 = some r) :
 Calls Try.prog 47 #[.slice A0 l0.length c0] w fun e w' => e = .returned (.bool r) ∧ Below w.heap.size w w' := by
 unfold testamurref08_alike.f at h
 split at h
 · rename_i ho
   obtain ⟨L, rfl⟩ := ex_okS ho
   rw [shG_map] at h
   injection h with h
   subst h
   exact ralike_s _ _ _ _ _ (rs_of_C hr0)
 · cases h
end Go.Proofs.Ytillfbohengpaaa.PA
end
section
namespace Go.Proofs.Ytillfbohengpaaa.PA
open Go.RowKit Go.Proofs.YtillfbohengpaaaW.PrintWords Go.Proofs.YtillfbohengpaaaW.PrintLast Go.Proofs.YtillfbohengpaaaW.PrintMore
attribute [local go_sem] max2_int min2_int max_two min_two max_three min_three max_four min_four   -- for this text's walks alone
set_option linter.unusedVariables false
set_option linter.unusedSimpArgs false
def testamurref08_Check.l0 : Nat → List (S52) → Int → Option (Int)
 | 0, _, _ => none
 | k + 1, x0, x3 => if x3 < (x0.length : Int) then (if 0 ≤ x3 then (if 0 < (x0.length : Int) then (if ((rd_T52 x0 x3).f0) = ((rd_T52 x0 0).f0) then (if ((rd_T52 x0 x3).f0) < 0 then (some 81) else (if ((rd_T52 x0 x3).f0) > 1048576 then (some 81) else (testamurref08_Check.l0 k x0 (wrap64 (x3 + 1))))) else (some 81)) else (none)) else (none)) else (some 0)
def testamurref08_Check.f (k : Nat) (l0 : List (S52)) : Option (Int) := (testamurref08_alike.f l0).bind fun t121 => (if t121 = true then (testamurref08_Check.l0 k l0 0) else (some 80))
set_option maxHeartbeats 8000000 in
set_option maxRecDepth 100000 in
theorem testamurref08_Check.calls (k : Nat) (A0 : Option Addr) (c0 : Nat) (l0 : List (S52)) (r : Int) (w : World) (hr0 : Kd.C k52 w A0 l0.length l0) (hc0 : l0.length ≤ c0) (h : testamurref08_Check.f k l0 = some r) :
 Calls Try.prog 28 #[.slice A0 l0.length c0] w fun e w' => e = .returned (.int .i64 r) ∧ Below w.heap.size w w' := by
 have HR0 := Aside0.mk hr0
 have HC0 := Aside0.mk hc0
 clear hr0 hc0
 have HB := Aside0.mk (Below.refl w.heap.size w)
 have H : ((testamurref08_alike.f l0).bind fun t121 => (if t121 = true then (testamurref08_Check.l0 k l0 0) else (some 80))) = some r := h
 clear h
 replace H := Option.bind_eq_some_iff.mp H
 obtain ⟨t121, A20, H⟩ := H
 replace H : (if t121 = true then (testamurref08_Check.l0 k l0 0) else (some 80)) = some r := H
 have A2 := Aside0.mk A20
 clear A20
 by_cases c3 : t121 = true
 · subst c3
   have H1 : (testamurref08_Check.l0 k l0 0) = some r := by rw [if_pos rfl] at H; exact H
   clear H
   have H := H1
   clear H1
   have H' := Aside0.mk H
   clear H
   go_enter Try.func28, Try.ntmps28
   go_wp2_with (first | (go_at_call 47; (with_reducible refine (testamurref08_alike.calls _ _ l0 true _ ?side1 ?side2 A2.out).mono ?_); (case side1 => repeat (first | exact HR0.out | (with_reducible refine Kd.C_alloc ?_ _) | (with_reducible refine Kd.C_drewN ?_ _) | (with_reducible refine Kd.C_drew ?_))); (case side2 => exact HC0.out); rintro e w4 ⟨rfl, hb⟩; have n0_ := Aside0.mk (below_step (by repeat (first | (with_reducible first | exact HB.out | apply below_alloc | apply pw_below_drewN | apply below_drew1) | exact HB.out)) hb); clear HB; have HB := n0_; clear n0_; (try clear hb); (try clear hb2); (try clear hk); (try clear hi)))
   repeat (go_quiet (first | (go_at_call 47; (with_reducible refine (testamurref08_alike.calls _ _ l0 true _ ?side1 ?side2 A2.out).mono ?_); (case side1 => repeat (first | exact HR0.out | (with_reducible refine Kd.C_alloc ?_ _) | (with_reducible refine Kd.C_drewN ?_ _) | (with_reducible refine Kd.C_drew ?_))); (case side2 => exact HC0.out); rintro e w4 ⟨rfl, hb⟩; have n0_ := Aside0.mk (below_step (by repeat (first | (with_reducible first | exact HB.out | apply below_alloc | apply pw_below_drewN | apply below_drew1) | exact HB.out)) hb); clear HB; have HB := n0_; clear n0_; (try clear hb); (try clear hb2); (try clear hk); (try clear hi))); try go_wp2_with (first | (go_at_call 47; (with_reducible refine (testamurref08_alike.calls _ _ l0 true _ ?side1 ?side2 A2.out).mono ?_); (case side1 => repeat (first | exact HR0.out | (with_reducible refine Kd.C_alloc ?_ _) | (with_reducible refine Kd.C_drewN ?_ _) | (with_reducible refine Kd.C_drew ?_))); (case side2 => exact HC0.out); rintro e w4 ⟨rfl, hb⟩; have n0_ := Aside0.mk (below_step (by repeat (first | (with_reducible first | exact HB.out | apply below_alloc | apply pw_below_drewN | apply below_drew1) | exact HB.out)) hb); clear HB; have HB := n0_; clear n0_; (try clear hb); (try clear hb2); (try clear hk); (try clear hi))))
   go_loopg [3] k (fun kq v3 w' => ∃ (x3_1 : Int), v3 = .int .i64 x3_1 ∧ Aside0 (testamurref08_Check.l0 kq l0 x3_1 = some r) ∧ Aside0 (kq ≤ k) ∧ Aside0 (Below w.heap.size w w'))
   case atStart => exact ⟨(0), (by first | rfl | (simp; done) | (simp [*]; done)), H', ⟨Nat.le_refl _⟩, ⟨by repeat (first | (with_reducible first | exact HB.out | apply below_alloc | apply pw_below_drewN | apply below_drew1) | exact HB.out)⟩⟩
   case round =>
    clear H'
    try clear c2
    try clear p2
    try clear c3
    obtain ⟨x3_1, rfl, HA, HK1, HB⟩ := hrel
    cases gk with
    | zero => exact absurd HA.out (by simp [testamurref08_Check.l0])
    | succ k1 =>
     have H := HA.out
     clear HA
     simp only [testamurref08_Check.l0] at H
     by_cases c5 : x3_1 < (l0.length : Int)
     · rw [if_pos c5] at H
       have c5b0 : decide (x3_1 < (l0.length : Int)) = true := decide_eq_true c5
       clear c5
       by_cases c6 : 0 ≤ x3_1
       · rw [if_pos c6] at H
         have c6b0 : decide (0 ≤ x3_1) = true := decide_eq_true c6
         clear c6
         by_cases c7 : 0 < (l0.length : Int)
         · rw [if_pos c7] at H
           have c7b0 : decide (0 < (l0.length : Int)) = true := decide_eq_true c7
           have c7b1 : decide (0 < l0.length) = true := decide_eq_true (by omega)
           clear c7
           by_cases c8 : ((rd_T52 l0 x3_1).f0) = ((rd_T52 l0 0).f0)
           · rw [if_pos c8] at H
             have c8b0 : (((rd_T52 l0 x3_1).f0) == ((rd_T52 l0 0).f0)) = true := beq_iff_eq.mpr c8
             have c8b1 : (((rd_T52 l0 x3_1).f0) != ((rd_T52 l0 0).f0)) = false := bne_eq_false_iff_eq.mpr c8
             clear c8
             by_cases c9 : ((rd_T52 l0 x3_1).f0) < 0
             · rw [if_pos c9] at H
               have c9b0 : decide (((rd_T52 l0 x3_1).f0) < 0) = true := decide_eq_true c9
               clear c9
               obtain rfl := Option.some.inj H
               have p122 : 0 ≤ (x3_1 : Int) := of_decide_eq_true (by first | (with_reducible assumption) | assumption)
               have q122 : x3_1 < (l0.length : Int) := of_decide_eq_true (by first | (with_reducible assumption) | assumption)
               obtain ⟨ad122, A122_4, c122_4, e122, hx122_0, hx122_1, hx122_2, hx122_3, hx122_4, hl122_4, hi122_4⟩ := at_T52 HR0.out x3_1 p122 q122
               cases e122
               replace hx122_0 := (HB.out.cell (World.block_lt_of_cell? w _ hx122_0)).trans hx122_0
               replace hx122_1 := (HB.out.cell (World.block_lt_of_cell? w _ hx122_1)).trans hx122_1
               replace hx122_2 := (HB.out.cell (World.block_lt_of_cell? w _ hx122_2)).trans hx122_2
               replace hx122_3 := (HB.out.cell (World.block_lt_of_cell? w _ hx122_3)).trans hx122_3
               replace hx122_4 := (HB.out.cell (World.block_lt_of_cell? w _ hx122_4)).trans hx122_4
               have HR122_4 := Aside0.mk hi122_4
               have HC122_4 := Aside0.mk hl122_4
               clear hi122_4 hl122_4
               replace p122 := eq_true p122
               replace q122 := eq_true q122
               have p123 : 0 ≤ (0 : Int) := (by omega)
               have q123 : 0 < (l0.length : Int) := of_decide_eq_true (by first | (with_reducible assumption) | assumption)
               obtain ⟨ad123, A123_4, c123_4, e123, hx123_0, hx123_1, hx123_2, hx123_3, hx123_4, hl123_4, hi123_4⟩ := at_T52 HR0.out 0 p123 q123
               obtain rfl : ad122 = ad123 := (by injection e123)
               have qi123 : (0 < l0.length) = True := eq_true (by omega)
               (try rw [show ((0 : Int)).toNat = 0 from rfl] at hx123_0)
               (try rw [show 0 * 5 = 0 from rfl] at hx123_0)
               (try rw [Addr.add_zero'] at hx123_0)
               (try rw [show ((0 : Int)).toNat = 0 from rfl] at hx123_1)
               (try rw [show 0 * 5 = 0 from rfl] at hx123_1)
               (try rw [Addr.add_zero'] at hx123_1)
               (try rw [show ((0 : Int)).toNat = 0 from rfl] at hx123_2)
               (try rw [show 0 * 5 = 0 from rfl] at hx123_2)
               (try rw [Addr.add_zero'] at hx123_2)
               (try rw [show ((0 : Int)).toNat = 0 from rfl] at hx123_3)
               (try rw [show 0 * 5 = 0 from rfl] at hx123_3)
               (try rw [Addr.add_zero'] at hx123_3)
               (try rw [show ((0 : Int)).toNat = 0 from rfl] at hx123_4)
               (try rw [show 0 * 5 = 0 from rfl] at hx123_4)
               (try rw [Addr.add_zero'] at hx123_4)
               replace hx123_0 := (HB.out.cell (World.block_lt_of_cell? w _ hx123_0)).trans hx123_0
               replace hx123_1 := (HB.out.cell (World.block_lt_of_cell? w _ hx123_1)).trans hx123_1
               replace hx123_2 := (HB.out.cell (World.block_lt_of_cell? w _ hx123_2)).trans hx123_2
               replace hx123_3 := (HB.out.cell (World.block_lt_of_cell? w _ hx123_3)).trans hx123_3
               replace hx123_4 := (HB.out.cell (World.block_lt_of_cell? w _ hx123_4)).trans hx123_4
               have HR123_4 := Aside0.mk hi123_4
               have HC123_4 := Aside0.mk hl123_4
               clear hi123_4 hl123_4
               replace p123 := eq_true p123
               replace q123 := eq_true q123
               have p124 : 0 ≤ (x3_1 : Int) := of_decide_eq_true (by first | (with_reducible assumption) | assumption)
               have q124 : x3_1 < (l0.length : Int) := of_decide_eq_true (by first | (with_reducible assumption) | assumption)
               obtain ⟨ad124, A124_4, c124_4, e124, hx124_0, hx124_1, hx124_2, hx124_3, hx124_4, hl124_4, hi124_4⟩ := at_T52 HR0.out x3_1 p124 q124
               obtain rfl : ad122 = ad124 := (by injection e124)
               replace hx124_0 := (HB.out.cell (World.block_lt_of_cell? w _ hx124_0)).trans hx124_0
               replace hx124_1 := (HB.out.cell (World.block_lt_of_cell? w _ hx124_1)).trans hx124_1
               replace hx124_2 := (HB.out.cell (World.block_lt_of_cell? w _ hx124_2)).trans hx124_2
               replace hx124_3 := (HB.out.cell (World.block_lt_of_cell? w _ hx124_3)).trans hx124_3
               replace hx124_4 := (HB.out.cell (World.block_lt_of_cell? w _ hx124_4)).trans hx124_4
               have HR124_4 := Aside0.mk hi124_4
               have HC124_4 := Aside0.mk hl124_4
               clear hi124_4 hl124_4
               replace p124 := eq_true p124
               replace q124 := eq_true q124
               have ea_ := Option.some.inj (hx122_4.symm.trans hx124_4)
               injection ea_ with ea_ en_ ec_
               subst ea_
               subst ec_
               clear en_
               go_wp2
               repeat (go_quiet (fail); try go_wp2)
               go_ret
               exact ⟨by first | rfl | (simp [errW_none, errW_some] <;> rfl) | (simp [*, errW_none, errW_some] <;> rfl), by repeat (first | (with_reducible first | exact HB.out | apply below_alloc | apply pw_below_drewN | apply below_drew1) | exact HB.out)⟩
             · rw [if_neg c9] at H
               have c9b0 : decide (((rd_T52 l0 x3_1).f0) < 0) = false := decide_eq_false c9
               clear c9
               by_cases c10 : ((rd_T52 l0 x3_1).f0) > 1048576
               · rw [if_pos c10] at H
                 have c10b0 : decide (1048576 < ((rd_T52 l0 x3_1).f0)) = true := decide_eq_true c10
                 clear c10
                 obtain rfl := Option.some.inj H
                 have p122 : 0 ≤ (x3_1 : Int) := of_decide_eq_true (by first | (with_reducible assumption) | assumption)
                 have q122 : x3_1 < (l0.length : Int) := of_decide_eq_true (by first | (with_reducible assumption) | assumption)
                 obtain ⟨ad122, A122_4, c122_4, e122, hx122_0, hx122_1, hx122_2, hx122_3, hx122_4, hl122_4, hi122_4⟩ := at_T52 HR0.out x3_1 p122 q122
                 cases e122
                 replace hx122_0 := (HB.out.cell (World.block_lt_of_cell? w _ hx122_0)).trans hx122_0
                 replace hx122_1 := (HB.out.cell (World.block_lt_of_cell? w _ hx122_1)).trans hx122_1
                 replace hx122_2 := (HB.out.cell (World.block_lt_of_cell? w _ hx122_2)).trans hx122_2
                 replace hx122_3 := (HB.out.cell (World.block_lt_of_cell? w _ hx122_3)).trans hx122_3
                 replace hx122_4 := (HB.out.cell (World.block_lt_of_cell? w _ hx122_4)).trans hx122_4
                 have HR122_4 := Aside0.mk hi122_4
                 have HC122_4 := Aside0.mk hl122_4
                 clear hi122_4 hl122_4
                 replace p122 := eq_true p122
                 replace q122 := eq_true q122
                 have p123 : 0 ≤ (0 : Int) := (by omega)
                 have q123 : 0 < (l0.length : Int) := of_decide_eq_true (by first | (with_reducible assumption) | assumption)
                 obtain ⟨ad123, A123_4, c123_4, e123, hx123_0, hx123_1, hx123_2, hx123_3, hx123_4, hl123_4, hi123_4⟩ := at_T52 HR0.out 0 p123 q123
                 obtain rfl : ad122 = ad123 := (by injection e123)
                 have qi123 : (0 < l0.length) = True := eq_true (by omega)
                 (try rw [show ((0 : Int)).toNat = 0 from rfl] at hx123_0)
                 (try rw [show 0 * 5 = 0 from rfl] at hx123_0)
                 (try rw [Addr.add_zero'] at hx123_0)
                 (try rw [show ((0 : Int)).toNat = 0 from rfl] at hx123_1)
                 (try rw [show 0 * 5 = 0 from rfl] at hx123_1)
                 (try rw [Addr.add_zero'] at hx123_1)
                 (try rw [show ((0 : Int)).toNat = 0 from rfl] at hx123_2)
                 (try rw [show 0 * 5 = 0 from rfl] at hx123_2)
                 (try rw [Addr.add_zero'] at hx123_2)
                 (try rw [show ((0 : Int)).toNat = 0 from rfl] at hx123_3)
                 (try rw [show 0 * 5 = 0 from rfl] at hx123_3)
                 (try rw [Addr.add_zero'] at hx123_3)
                 (try rw [show ((0 : Int)).toNat = 0 from rfl] at hx123_4)
                 (try rw [show 0 * 5 = 0 from rfl] at hx123_4)
                 (try rw [Addr.add_zero'] at hx123_4)
                 replace hx123_0 := (HB.out.cell (World.block_lt_of_cell? w _ hx123_0)).trans hx123_0
                 replace hx123_1 := (HB.out.cell (World.block_lt_of_cell? w _ hx123_1)).trans hx123_1
                 replace hx123_2 := (HB.out.cell (World.block_lt_of_cell? w _ hx123_2)).trans hx123_2
                 replace hx123_3 := (HB.out.cell (World.block_lt_of_cell? w _ hx123_3)).trans hx123_3
                 replace hx123_4 := (HB.out.cell (World.block_lt_of_cell? w _ hx123_4)).trans hx123_4
                 have HR123_4 := Aside0.mk hi123_4
                 have HC123_4 := Aside0.mk hl123_4
                 clear hi123_4 hl123_4
                 replace p123 := eq_true p123
                 replace q123 := eq_true q123
                 have p124 : 0 ≤ (x3_1 : Int) := of_decide_eq_true (by first | (with_reducible assumption) | assumption)
                 have q124 : x3_1 < (l0.length : Int) := of_decide_eq_true (by first | (with_reducible assumption) | assumption)
                 obtain ⟨ad124, A124_4, c124_4, e124, hx124_0, hx124_1, hx124_2, hx124_3, hx124_4, hl124_4, hi124_4⟩ := at_T52 HR0.out x3_1 p124 q124
                 obtain rfl : ad122 = ad124 := (by injection e124)
                 replace hx124_0 := (HB.out.cell (World.block_lt_of_cell? w _ hx124_0)).trans hx124_0
                 replace hx124_1 := (HB.out.cell (World.block_lt_of_cell? w _ hx124_1)).trans hx124_1
                 replace hx124_2 := (HB.out.cell (World.block_lt_of_cell? w _ hx124_2)).trans hx124_2
                 replace hx124_3 := (HB.out.cell (World.block_lt_of_cell? w _ hx124_3)).trans hx124_3
                 replace hx124_4 := (HB.out.cell (World.block_lt_of_cell? w _ hx124_4)).trans hx124_4
                 have HR124_4 := Aside0.mk hi124_4
                 have HC124_4 := Aside0.mk hl124_4
                 clear hi124_4 hl124_4
                 replace p124 := eq_true p124
                 replace q124 := eq_true q124
                 have ea_ := Option.some.inj (hx122_4.symm.trans hx124_4)
                 injection ea_ with ea_ en_ ec_
                 subst ea_
                 subst ec_
                 clear en_
                 have p125 : 0 ≤ (x3_1 : Int) := of_decide_eq_true (by first | (with_reducible assumption) | assumption)
                 have q125 : x3_1 < (l0.length : Int) := of_decide_eq_true (by first | (with_reducible assumption) | assumption)
                 obtain ⟨ad125, A125_4, c125_4, e125, hx125_0, hx125_1, hx125_2, hx125_3, hx125_4, hl125_4, hi125_4⟩ := at_T52 HR0.out x3_1 p125 q125
                 obtain rfl : ad122 = ad125 := (by injection e125)
                 replace hx125_0 := (HB.out.cell (World.block_lt_of_cell? w _ hx125_0)).trans hx125_0
                 replace hx125_1 := (HB.out.cell (World.block_lt_of_cell? w _ hx125_1)).trans hx125_1
                 replace hx125_2 := (HB.out.cell (World.block_lt_of_cell? w _ hx125_2)).trans hx125_2
                 replace hx125_3 := (HB.out.cell (World.block_lt_of_cell? w _ hx125_3)).trans hx125_3
                 replace hx125_4 := (HB.out.cell (World.block_lt_of_cell? w _ hx125_4)).trans hx125_4
                 have HR125_4 := Aside0.mk hi125_4
                 have HC125_4 := Aside0.mk hl125_4
                 clear hi125_4 hl125_4
                 replace p125 := eq_true p125
                 replace q125 := eq_true q125
                 have ea_ := Option.some.inj (hx122_4.symm.trans hx125_4)
                 injection ea_ with ea_ en_ ec_
                 subst ea_
                 subst ec_
                 clear en_
                 go_wp2
                 repeat (go_quiet (fail); try go_wp2)
                 go_ret
                 exact ⟨by first | rfl | (simp [errW_none, errW_some] <;> rfl) | (simp [*, errW_none, errW_some] <;> rfl), by repeat (first | (with_reducible first | exact HB.out | apply below_alloc | apply pw_below_drewN | apply below_drew1) | exact HB.out)⟩
               · rw [if_neg c10] at H
                 have c10b0 : decide (1048576 < ((rd_T52 l0 x3_1).f0)) = false := decide_eq_false c10
                 clear c10
                 have H' := Aside0.mk H
                 clear H
                 have p122 : 0 ≤ (x3_1 : Int) := of_decide_eq_true (by first | (with_reducible assumption) | assumption)
                 have q122 : x3_1 < (l0.length : Int) := of_decide_eq_true (by first | (with_reducible assumption) | assumption)
                 obtain ⟨ad122, A122_4, c122_4, e122, hx122_0, hx122_1, hx122_2, hx122_3, hx122_4, hl122_4, hi122_4⟩ := at_T52 HR0.out x3_1 p122 q122
                 cases e122
                 replace hx122_0 := (HB.out.cell (World.block_lt_of_cell? w _ hx122_0)).trans hx122_0
                 replace hx122_1 := (HB.out.cell (World.block_lt_of_cell? w _ hx122_1)).trans hx122_1
                 replace hx122_2 := (HB.out.cell (World.block_lt_of_cell? w _ hx122_2)).trans hx122_2
                 replace hx122_3 := (HB.out.cell (World.block_lt_of_cell? w _ hx122_3)).trans hx122_3
                 replace hx122_4 := (HB.out.cell (World.block_lt_of_cell? w _ hx122_4)).trans hx122_4
                 have HR122_4 := Aside0.mk hi122_4
                 have HC122_4 := Aside0.mk hl122_4
                 clear hi122_4 hl122_4
                 replace p122 := eq_true p122
                 replace q122 := eq_true q122
                 have p123 : 0 ≤ (0 : Int) := (by omega)
                 have q123 : 0 < (l0.length : Int) := of_decide_eq_true (by first | (with_reducible assumption) | assumption)
                 obtain ⟨ad123, A123_4, c123_4, e123, hx123_0, hx123_1, hx123_2, hx123_3, hx123_4, hl123_4, hi123_4⟩ := at_T52 HR0.out 0 p123 q123
                 obtain rfl : ad122 = ad123 := (by injection e123)
                 have qi123 : (0 < l0.length) = True := eq_true (by omega)
                 (try rw [show ((0 : Int)).toNat = 0 from rfl] at hx123_0)
                 (try rw [show 0 * 5 = 0 from rfl] at hx123_0)
                 (try rw [Addr.add_zero'] at hx123_0)
                 (try rw [show ((0 : Int)).toNat = 0 from rfl] at hx123_1)
                 (try rw [show 0 * 5 = 0 from rfl] at hx123_1)
                 (try rw [Addr.add_zero'] at hx123_1)
                 (try rw [show ((0 : Int)).toNat = 0 from rfl] at hx123_2)
                 (try rw [show 0 * 5 = 0 from rfl] at hx123_2)
                 (try rw [Addr.add_zero'] at hx123_2)
                 (try rw [show ((0 : Int)).toNat = 0 from rfl] at hx123_3)
                 (try rw [show 0 * 5 = 0 from rfl] at hx123_3)
                 (try rw [Addr.add_zero'] at hx123_3)
                 (try rw [show ((0 : Int)).toNat = 0 from rfl] at hx123_4)
                 (try rw [show 0 * 5 = 0 from rfl] at hx123_4)
                 (try rw [Addr.add_zero'] at hx123_4)
                 replace hx123_0 := (HB.out.cell (World.block_lt_of_cell? w _ hx123_0)).trans hx123_0
                 replace hx123_1 := (HB.out.cell (World.block_lt_of_cell? w _ hx123_1)).trans hx123_1
                 replace hx123_2 := (HB.out.cell (World.block_lt_of_cell? w _ hx123_2)).trans hx123_2
                 replace hx123_3 := (HB.out.cell (World.block_lt_of_cell? w _ hx123_3)).trans hx123_3
                 replace hx123_4 := (HB.out.cell (World.block_lt_of_cell? w _ hx123_4)).trans hx123_4
                 have HR123_4 := Aside0.mk hi123_4
                 have HC123_4 := Aside0.mk hl123_4
                 clear hi123_4 hl123_4
                 replace p123 := eq_true p123
                 replace q123 := eq_true q123
                 have p124 : 0 ≤ (x3_1 : Int) := of_decide_eq_true (by first | (with_reducible assumption) | assumption)
                 have q124 : x3_1 < (l0.length : Int) := of_decide_eq_true (by first | (with_reducible assumption) | assumption)
                 obtain ⟨ad124, A124_4, c124_4, e124, hx124_0, hx124_1, hx124_2, hx124_3, hx124_4, hl124_4, hi124_4⟩ := at_T52 HR0.out x3_1 p124 q124
                 obtain rfl : ad122 = ad124 := (by injection e124)
                 replace hx124_0 := (HB.out.cell (World.block_lt_of_cell? w _ hx124_0)).trans hx124_0
                 replace hx124_1 := (HB.out.cell (World.block_lt_of_cell? w _ hx124_1)).trans hx124_1
                 replace hx124_2 := (HB.out.cell (World.block_lt_of_cell? w _ hx124_2)).trans hx124_2
                 replace hx124_3 := (HB.out.cell (World.block_lt_of_cell? w _ hx124_3)).trans hx124_3
                 replace hx124_4 := (HB.out.cell (World.block_lt_of_cell? w _ hx124_4)).trans hx124_4
                 have HR124_4 := Aside0.mk hi124_4
                 have HC124_4 := Aside0.mk hl124_4
                 clear hi124_4 hl124_4
                 replace p124 := eq_true p124
                 replace q124 := eq_true q124
                 have ea_ := Option.some.inj (hx122_4.symm.trans hx124_4)
                 injection ea_ with ea_ en_ ec_
                 subst ea_
                 subst ec_
                 clear en_
                 have p125 : 0 ≤ (x3_1 : Int) := of_decide_eq_true (by first | (with_reducible assumption) | assumption)
                 have q125 : x3_1 < (l0.length : Int) := of_decide_eq_true (by first | (with_reducible assumption) | assumption)
                 obtain ⟨ad125, A125_4, c125_4, e125, hx125_0, hx125_1, hx125_2, hx125_3, hx125_4, hl125_4, hi125_4⟩ := at_T52 HR0.out x3_1 p125 q125
                 obtain rfl : ad122 = ad125 := (by injection e125)
                 replace hx125_0 := (HB.out.cell (World.block_lt_of_cell? w _ hx125_0)).trans hx125_0
                 replace hx125_1 := (HB.out.cell (World.block_lt_of_cell? w _ hx125_1)).trans hx125_1
                 replace hx125_2 := (HB.out.cell (World.block_lt_of_cell? w _ hx125_2)).trans hx125_2
                 replace hx125_3 := (HB.out.cell (World.block_lt_of_cell? w _ hx125_3)).trans hx125_3
                 replace hx125_4 := (HB.out.cell (World.block_lt_of_cell? w _ hx125_4)).trans hx125_4
                 have HR125_4 := Aside0.mk hi125_4
                 have HC125_4 := Aside0.mk hl125_4
                 clear hi125_4 hl125_4
                 replace p125 := eq_true p125
                 replace q125 := eq_true q125
                 have ea_ := Option.some.inj (hx122_4.symm.trans hx125_4)
                 injection ea_ with ea_ en_ ec_
                 subst ea_
                 subst ec_
                 clear en_
                 go_wp2
                 repeat (go_quiet (fail); try go_wp2)
                 go_roundg k1
                 case measure => have := HK1.out; omega
                 case rel => exact ⟨(wrap64 (x3_1 + 1)), (by first | rfl | (simp; done) | (simp [*]; done)), H', ⟨by have := HK1.out; omega⟩, ⟨by repeat (first | (with_reducible first | exact HB.out | apply below_alloc | apply pw_below_drewN | apply below_drew1) | exact HB.out)⟩⟩
           · rw [if_neg c8] at H
             have c8b0 : (((rd_T52 l0 x3_1).f0) == ((rd_T52 l0 0).f0)) = false := beq_eq_false_iff_ne.mpr c8
             have c8b1 : (((rd_T52 l0 x3_1).f0) != ((rd_T52 l0 0).f0)) = true := bne_iff_ne.mpr c8
             obtain rfl := Option.some.inj H
             have p122 : 0 ≤ (x3_1 : Int) := of_decide_eq_true (by first | (with_reducible assumption) | assumption)
             have q122 : x3_1 < (l0.length : Int) := of_decide_eq_true (by first | (with_reducible assumption) | assumption)
             obtain ⟨ad122, A122_4, c122_4, e122, hx122_0, hx122_1, hx122_2, hx122_3, hx122_4, hl122_4, hi122_4⟩ := at_T52 HR0.out x3_1 p122 q122
             cases e122
             replace hx122_0 := (HB.out.cell (World.block_lt_of_cell? w _ hx122_0)).trans hx122_0
             replace hx122_1 := (HB.out.cell (World.block_lt_of_cell? w _ hx122_1)).trans hx122_1
             replace hx122_2 := (HB.out.cell (World.block_lt_of_cell? w _ hx122_2)).trans hx122_2
             replace hx122_3 := (HB.out.cell (World.block_lt_of_cell? w _ hx122_3)).trans hx122_3
             replace hx122_4 := (HB.out.cell (World.block_lt_of_cell? w _ hx122_4)).trans hx122_4
             have HR122_4 := Aside0.mk hi122_4
             have HC122_4 := Aside0.mk hl122_4
             clear hi122_4 hl122_4
             replace p122 := eq_true p122
             replace q122 := eq_true q122
             have p123 : 0 ≤ (0 : Int) := (by omega)
             have q123 : 0 < (l0.length : Int) := of_decide_eq_true (by first | (with_reducible assumption) | assumption)
             obtain ⟨ad123, A123_4, c123_4, e123, hx123_0, hx123_1, hx123_2, hx123_3, hx123_4, hl123_4, hi123_4⟩ := at_T52 HR0.out 0 p123 q123
             obtain rfl : ad122 = ad123 := (by injection e123)
             have qi123 : (0 < l0.length) = True := eq_true (by omega)
             (try rw [show ((0 : Int)).toNat = 0 from rfl] at hx123_0)
             (try rw [show 0 * 5 = 0 from rfl] at hx123_0)
             (try rw [Addr.add_zero'] at hx123_0)
             (try rw [show ((0 : Int)).toNat = 0 from rfl] at hx123_1)
             (try rw [show 0 * 5 = 0 from rfl] at hx123_1)
             (try rw [Addr.add_zero'] at hx123_1)
             (try rw [show ((0 : Int)).toNat = 0 from rfl] at hx123_2)
             (try rw [show 0 * 5 = 0 from rfl] at hx123_2)
             (try rw [Addr.add_zero'] at hx123_2)
             (try rw [show ((0 : Int)).toNat = 0 from rfl] at hx123_3)
             (try rw [show 0 * 5 = 0 from rfl] at hx123_3)
             (try rw [Addr.add_zero'] at hx123_3)
             (try rw [show ((0 : Int)).toNat = 0 from rfl] at hx123_4)
             (try rw [show 0 * 5 = 0 from rfl] at hx123_4)
             (try rw [Addr.add_zero'] at hx123_4)
             replace hx123_0 := (HB.out.cell (World.block_lt_of_cell? w _ hx123_0)).trans hx123_0
             replace hx123_1 := (HB.out.cell (World.block_lt_of_cell? w _ hx123_1)).trans hx123_1
             replace hx123_2 := (HB.out.cell (World.block_lt_of_cell? w _ hx123_2)).trans hx123_2
             replace hx123_3 := (HB.out.cell (World.block_lt_of_cell? w _ hx123_3)).trans hx123_3
             replace hx123_4 := (HB.out.cell (World.block_lt_of_cell? w _ hx123_4)).trans hx123_4
             have HR123_4 := Aside0.mk hi123_4
             have HC123_4 := Aside0.mk hl123_4
             clear hi123_4 hl123_4
             replace p123 := eq_true p123
             replace q123 := eq_true q123
             go_wp2
             repeat (go_quiet (fail); try go_wp2)
             go_ret
             exact ⟨by first | rfl | (simp [errW_none, errW_some] <;> rfl) | (simp [*, errW_none, errW_some] <;> rfl), by repeat (first | (with_reducible first | exact HB.out | apply below_alloc | apply pw_below_drewN | apply below_drew1) | exact HB.out)⟩
         · rw [if_neg c7] at H
           exact absurd H (by simp)
       · rw [if_neg c6] at H
         exact absurd H (by simp)
     · rw [if_neg c5] at H
       have c5b0 : decide (x3_1 < (l0.length : Int)) = false := decide_eq_false c5
       clear c5
       obtain rfl := Option.some.inj H
       go_wp2
       repeat (go_quiet (fail); try go_wp2)
       go_ret
       exact ⟨by first | rfl | (simp [errW_none, errW_some] <;> rfl) | (simp [*, errW_none, errW_some] <;> rfl), by repeat (first | (with_reducible first | exact HB.out | apply below_alloc | apply pw_below_drewN | apply below_drew1) | exact HB.out)⟩
 · replace c3 := Bool.eq_false_iff.mpr c3
   subst c3
   have H1 : (some 80) = some r := by rw [if_neg (show ¬ (false = true) by decide)] at H; exact H
   clear H
   have H := H1
   clear H1
   obtain rfl := Option.some.inj H
   go_enter Try.func28, Try.ntmps28
   go_wp2_with (first | (go_at_call 47; (with_reducible refine (testamurref08_alike.calls _ _ l0 false _ ?side1 ?side2 A2.out).mono ?_); (case side1 => repeat (first | exact HR0.out | (with_reducible refine Kd.C_alloc ?_ _) | (with_reducible refine Kd.C_drewN ?_ _) | (with_reducible refine Kd.C_drew ?_))); (case side2 => exact HC0.out); rintro e w11 ⟨rfl, hb⟩; have n0_ := Aside0.mk (below_step (by repeat (first | (with_reducible first | exact HB.out | apply below_alloc | apply pw_below_drewN | apply below_drew1) | exact HB.out)) hb); clear HB; have HB := n0_; clear n0_; (try clear hb); (try clear hb2); (try clear hk); (try clear hi)))
   repeat (go_quiet (first | (go_at_call 47; (with_reducible refine (testamurref08_alike.calls _ _ l0 false _ ?side1 ?side2 A2.out).mono ?_); (case side1 => repeat (first | exact HR0.out | (with_reducible refine Kd.C_alloc ?_ _) | (with_reducible refine Kd.C_drewN ?_ _) | (with_reducible refine Kd.C_drew ?_))); (case side2 => exact HC0.out); rintro e w11 ⟨rfl, hb⟩; have n0_ := Aside0.mk (below_step (by repeat (first | (with_reducible first | exact HB.out | apply below_alloc | apply pw_below_drewN | apply below_drew1) | exact HB.out)) hb); clear HB; have HB := n0_; clear n0_; (try clear hb); (try clear hb2); (try clear hk); (try clear hi))); try go_wp2_with (first | (go_at_call 47; (with_reducible refine (testamurref08_alike.calls _ _ l0 false _ ?side1 ?side2 A2.out).mono ?_); (case side1 => repeat (first | exact HR0.out | (with_reducible refine Kd.C_alloc ?_ _) | (with_reducible refine Kd.C_drewN ?_ _) | (with_reducible refine Kd.C_drew ?_))); (case side2 => exact HC0.out); rintro e w11 ⟨rfl, hb⟩; have n0_ := Aside0.mk (below_step (by repeat (first | (with_reducible first | exact HB.out | apply below_alloc | apply pw_below_drewN | apply below_drew1) | exact HB.out)) hb); clear HB; have HB := n0_; clear n0_; (try clear hb); (try clear hb2); (try clear hk); (try clear hi))))
   go_ret
   exact ⟨by first | rfl | (simp [errW_none, errW_some] <;> rfl) | (simp [*, errW_none, errW_some] <;> rfl), by repeat (first | (with_reducible first | exact HB.out | apply below_alloc | apply pw_below_drewN | apply below_drew1) | exact HB.out)⟩
end Go.Proofs.Ytillfbohengpaaa.PA
end
section
namespace Go.Proofs.Ytillfbohengpaaa.PA
open Go.RowKit Go.Proofs.YtillfbohengpaaaW.PrintWords Go.Proofs.YtillfbohengpaaaW.PrintLast Go.Proofs.YtillfbohengpaaaW.PrintMore
attribute [local go_sem] max2_int min2_int max_two min_two max_three min_three max_four min_four   -- for this text's walks alone
set_option linter.unusedVariables false
set_option linter.unusedSimpArgs false
def testamurref08_points.l0 : Nat → List (S52) → Int → List Int → List Int → Int → Option (List Int × List Int)
 | 0, _, _, _, _, _ => none
 | k + 1, x0, x1, x6, x7, x8 => if x8 < (x0.length : Int) then (if 0 ≤ x8 then (if x6.length < 140737488355328 then (if 0 ≤ x1 then (if x1 < (((rd_T52 x0 x8).f4).length : Int) then (if x7.length < 140737488355328 then (testamurref08_points.l0 k x0 x1 (x6 ++ [((rd_T52 x0 x8).f1) % 256]) (x7 ++ [rd ((rd_T52 x0 x8).f4) x1]) (wrap64 (x8 + 1))) else (none)) else (none)) else (none)) else (none)) else (none)) else (some (x6, x7))
def testamurref08_points.f (k : Nat) (l0 : List (S52)) (a1 : Int) : Option (List Int × List Int) := testamurref08_points.l0 k l0 a1 ([] : List Int) ([] : List Int) 0
set_option maxHeartbeats 8000000 in
set_option maxRecDepth 100000 in
theorem testamurref08_points.calls (k : Nat) (A0 : Option Addr) (c0 : Nat) (l0 : List (S52)) (a1 : Int) (r1 : List Int) (r2 : List Int) (w : World) (hr0 : Kd.C k52 w A0 l0.length l0) (hc0 : l0.length ≤ c0) (h : testamurref08_points.f k l0 a1 = some (r1, r2)) :
 Calls Try.prog 51 #[.slice A0 l0.length c0, .int .i64 a1] w fun e w' => ∃ v0_ v1_ : Value, e = .returned (.tuple #[v0_, v1_]) ∧ Kd.R (Kd.int .u8) 5 w' w.heap.size (fun k_ => some k_ ≠ (v1_ : Value).ownBlock) v0_ r1 ∧ Kd.R (Kd.int .u8) 5 w' w.heap.size (fun k_ => some k_ ≠ (v0_ : Value).ownBlock) v1_ r2 ∧ Below w.heap.size w w' := by
 have HR0 := Aside0.mk hr0
 have HC0 := Aside0.mk hc0
 clear hr0 hc0
 have HB := Aside0.mk (Below.refl w.heap.size w)
 have H : (testamurref08_points.l0 k l0 a1 ([] : List Int) ([] : List Int) 0) = some (r1, r2) := h
 clear h
 have H' := Aside0.mk H
 clear H
 go_enter Try.func51, Try.ntmps51
 go_wp2
 go_loopg [6, 7, 8] k (fun kq v6 v7 v8 w' => ∃ (x6_1 : List Int) (x7_1 : List Int) (x8_1 : Int), v8 = .int .i64 x8_1 ∧ Aside0 (testamurref08_points.l0 kq l0 a1 x6_1 x7_1 x8_1 = some (r1, r2)) ∧ Aside0 (kq ≤ k) ∧ Aside0 (Kd.R (Kd.int .u8) 5 w' w.heap.size (fun k_ => some k_ ≠ (v7 : Value).ownBlock) v6 x6_1) ∧ Aside0 (Kd.R (Kd.int .u8) 5 w' w.heap.size (fun k_ => some k_ ≠ (v6 : Value).ownBlock) v7 x7_1) ∧ Aside0 (Below w.heap.size w w'))
 case atStart => exact ⟨(([] : List Int)), (([] : List Int)), (0), (by first | rfl | (simp; done) | (simp [*]; done)), H', ⟨Nat.le_refl _⟩, ⟨by first | exact Kd.R_nil _ _ _ _ _ | exact Kd.N_nil _ _ _ _ _ | exact Kd.V_nil _ _ _ _ _ | exact Kd.Q_nil _ _ _ _ _ | exact Kd.S_nil _ _ _ _ _⟩, ⟨by first | exact Kd.R_nil _ _ _ _ _ | exact Kd.N_nil _ _ _ _ _ | exact Kd.V_nil _ _ _ _ _ | exact Kd.Q_nil _ _ _ _ _ | exact Kd.S_nil _ _ _ _ _⟩, ⟨by repeat (first | (with_reducible first | exact HB.out | apply below_alloc | apply pw_below_drewN | apply below_drew1) | exact HB.out)⟩⟩
 case round =>
  clear H'
  try clear p2
  obtain ⟨x6_1, x7_1, x8_1, rfl, HA, HK1, HO_6, HO_7, HB⟩ := hrel
  cases gk with
  | zero => exact absurd HA.out (by simp [testamurref08_points.l0])
  | succ k1 =>
   have H := HA.out
   clear HA
   simp only [testamurref08_points.l0] at H
   by_cases c3 : x8_1 < (l0.length : Int)
   · rw [if_pos c3] at H
     have c3b0 : decide (x8_1 < (l0.length : Int)) = true := decide_eq_true c3
     clear c3
     by_cases c4 : 0 ≤ x8_1
     · rw [if_pos c4] at H
       have c4b0 : decide (0 ≤ x8_1) = true := decide_eq_true c4
       clear c4
       by_cases c5 : x6_1.length < 140737488355328
       · rw [if_pos c5] at H
         have LMc5 := Aside0.mk c5
         clear c5
         obtain ⟨y145, hy145⟩ : ∃ y_ : List Int, y_ = (x6_1 ++ [((rd_T52 l0 x8_1).f1) % 256]) := ⟨_, rfl⟩
         replace H : (if 0 ≤ a1 then (if a1 < (((rd_T52 l0 x8_1).f4).length : Int) then (if x7_1.length < 140737488355328 then (testamurref08_points.l0 k1 l0 a1 y145 (x7_1 ++ [rd ((rd_T52 l0 x8_1).f4) a1]) (wrap64 (x8_1 + 1))) else (none)) else (none)) else (none)) = some (r1, r2) := by first | (rw [hy145]; with_reducible exact H) | (have H2_ := (Option.bind_some _ _).symm.trans H; rw [hy145]; with_reducible exact H2_) | (have H2_ := (Option.bind_some _ _).symm.trans H; with_reducible exact H2_) | with_reducible exact H | (rw [hy145]; exact H) | exact H
         have Ny145 := Aside0.mk hy145
         clear hy145
         by_cases c6 : 0 ≤ a1
         · rw [if_pos c6] at H
           have c6b0 : decide (0 ≤ a1) = true := decide_eq_true c6
           clear c6
           by_cases c7 : a1 < (((rd_T52 l0 x8_1).f4).length : Int)
           · rw [if_pos c7] at H
             have c7b0 : decide (a1 < (((rd_T52 l0 x8_1).f4).length : Int)) = true := decide_eq_true c7
             clear c7
             by_cases c8 : x7_1.length < 140737488355328
             · rw [if_pos c8] at H
               have LMc8 := Aside0.mk c8
               clear c8
               obtain ⟨y150, hy150⟩ : ∃ y_ : List Int, y_ = (x7_1 ++ [rd ((rd_T52 l0 x8_1).f4) a1]) := ⟨_, rfl⟩
               replace H : (testamurref08_points.l0 k1 l0 a1 y145 y150 (wrap64 (x8_1 + 1))) = some (r1, r2) := by first | (rw [hy150]; with_reducible exact H) | (have H2_ := (Option.bind_some _ _).symm.trans H; rw [hy150]; with_reducible exact H2_) | (have H2_ := (Option.bind_some _ _).symm.trans H; with_reducible exact H2_) | with_reducible exact H | (rw [hy150]; exact H) | exact H
               have Ny150 := Aside0.mk hy150
               clear hy150
               have H' := Aside0.mk H
               clear H
               have p144 : 0 ≤ (x8_1 : Int) := of_decide_eq_true (by first | (with_reducible assumption) | assumption)
               have q144 : x8_1 < (l0.length : Int) := of_decide_eq_true (by first | (with_reducible assumption) | assumption)
               obtain ⟨ad144, A144_4, c144_4, e144, hx144_0, hx144_1, hx144_2, hx144_3, hx144_4, hl144_4, hi144_4⟩ := at_T52 HR0.out x8_1 p144 q144
               cases e144
               replace hx144_0 := (HB.out.cell (World.block_lt_of_cell? w _ hx144_0)).trans hx144_0
               replace hx144_1 := (HB.out.cell (World.block_lt_of_cell? w _ hx144_1)).trans hx144_1
               replace hx144_2 := (HB.out.cell (World.block_lt_of_cell? w _ hx144_2)).trans hx144_2
               replace hx144_3 := (HB.out.cell (World.block_lt_of_cell? w _ hx144_3)).trans hx144_3
               replace hx144_4 := (HB.out.cell (World.block_lt_of_cell? w _ hx144_4)).trans hx144_4
               have HR144_4 := Aside0.mk hi144_4
               have HC144_4 := Aside0.mk hl144_4
               clear hi144_4 hl144_4
               replace p144 := eq_true p144
               replace q144 := eq_true q144
               go_wp2_with (first | ((with_reducible refine gate_builtin (b := .append) (xs := #[.tmp 15, .tmp 22]) rfl ?_); at_builtin; refine Kd.R_append (Kd.int .u8) (w0 := w) w.heap.size rfl (.tmp 15) (.tmp 22) 30 5 (.int .u8 0) 1 rfl Try.underlying30 info5 rfl (by decide) (by omega) u6 x6_1 (((rd_T52 l0 x8_1).f1) % 256) [.int .u8 (((rd_T52 l0 x8_1).f1) % 256)] (fun k_ => some k_ ≠ (u7 : Value).ownBlock) (fun _ => False) rfl rfl ?aP (fun _ hk => hk.elim) ?aF ?aO ?aB ?aS ?aL ?_; (case aP => exact rfl); (case aB => exact (by repeat (first | (with_reducible first | exact HB.out | apply below_alloc | apply pw_below_drewN | apply below_drew1) | exact HB.out))); (case aF => exact (fun k_ hk => Kd.fresh' (Kd.R_lt (by (with_reducible repeat (first | apply Kd.R_alloc | apply Kd.R_drewN | apply Kd.R_drew)); exact HO_7.out)) k_ hk)); (case aO => exact (by (with_reducible repeat (first | apply Kd.R_alloc | apply Kd.R_drewN | apply Kd.R_drew)); exact HO_6.out)); (case aS => exact (below_size (by repeat (first | (with_reducible first | exact HB.out | apply below_alloc | apply pw_below_drewN | apply below_drew1) | exact HB.out)))); (case aL => have := LMc5.out; omega); intro v146 w9 ho hb hg hat; rw [← Ny145.out] at ho; have n0_ := Aside0.mk (Kd.R_after (ok := (fun _ => True)) (by (with_reducible repeat (first | apply Kd.R_alloc | apply Kd.R_drewN | apply Kd.R_drew)); exact Kd.R_mono HO_7.out (fun _ hk => ⟨trivial, hk⟩)) hg hat); have n1_ := Aside0.mk (hb); have n2_ := Aside0.mk (ho); clear HO_7; clear HB; clear HO_6; have HO_7 := n0_; have HB := n1_; have HO147 := n2_; clear n0_ n1_ n2_; clear ho hb hg hat; have p148 : 0 ≤ (x8_1 : Int) := of_decide_eq_true (by first | (with_reducible assumption) | assumption); have q148 : x8_1 < (l0.length : Int) := of_decide_eq_true (by first | (with_reducible assumption) | assumption); obtain ⟨ad148, A148_4, c148_4, e148, hx148_0, hx148_1, hx148_2, hx148_3, hx148_4, hl148_4, hi148_4⟩ := at_T52 HR0.out x8_1 p148 q148; obtain rfl : ad144 = ad148 := (by injection e148); replace hx148_0 := (HB.out.cell (World.block_lt_of_cell? w _ hx148_0)).trans hx148_0; replace hx148_1 := (HB.out.cell (World.block_lt_of_cell? w _ hx148_1)).trans hx148_1; replace hx148_2 := (HB.out.cell (World.block_lt_of_cell? w _ hx148_2)).trans hx148_2; replace hx148_3 := (HB.out.cell (World.block_lt_of_cell? w _ hx148_3)).trans hx148_3; replace hx148_4 := (HB.out.cell (World.block_lt_of_cell? w _ hx148_4)).trans hx148_4; have HR148_4 := Aside0.mk hi148_4; have HC148_4 := Aside0.mk hl148_4; clear hi148_4 hl148_4; replace p148 := eq_true p148; replace q148 := eq_true q148; have p149 : 0 ≤ (a1 : Int) := of_decide_eq_true (by first | (with_reducible assumption) | assumption); have q149 : a1 < (((rd_T52 l0 x8_1).f4).length : Int) := of_decide_eq_true (by first | (with_reducible assumption) | assumption); obtain ⟨ad149, e149, hx149_0⟩ := Kd.at_int HR148_4.out a1 p149 q149; cases e149; replace hx149_0 := (HB.out.cell (World.block_lt_of_cell? w _ hx149_0)).trans hx149_0; replace p149 := eq_true p149; replace q149 := eq_true q149) | ((with_reducible refine gate_builtin (b := .append) (xs := #[.tmp 24, .tmp 33]) rfl ?_); at_builtin; refine Kd.R_append (Kd.int .u8) (w0 := w) w.heap.size rfl (.tmp 24) (.tmp 33) 30 5 (.int .u8 0) 1 rfl Try.underlying30 info5 rfl (by decide) (by omega) u7 x7_1 (rd ((rd_T52 l0 x8_1).f4) a1) [.int .u8 (rd ((rd_T52 l0 x8_1).f4) a1)] (fun k_ => some k_ ≠ (v146 : Value).ownBlock) (fun _ => False) rfl rfl ?aP (fun _ hk => hk.elim) ?aF ?aO ?aB ?aS ?aL ?_; (case aP => exact rfl); (case aB => exact (by repeat (first | (with_reducible first | exact HB.out | apply below_alloc | apply pw_below_drewN | apply below_drew1) | exact HB.out))); (case aF => exact (fun k_ hk => Kd.fresh' (Kd.R_lt (by (with_reducible repeat (first | apply Kd.R_alloc | apply Kd.R_drewN | apply Kd.R_drew)); exact HO147.out)) k_ hk)); (case aO => exact (by (with_reducible repeat (first | apply Kd.R_alloc | apply Kd.R_drewN | apply Kd.R_drew)); exact Kd.R_mono HO_7.out (fun _ hk => hk.2))); (case aS => exact (below_size (by repeat (first | (with_reducible first | exact HB.out | apply below_alloc | apply pw_below_drewN | apply below_drew1) | exact HB.out)))); (case aL => have := LMc8.out; omega); intro v151 w10 ho hb hg hat; rw [← Ny150.out] at ho; have n0_ := Aside0.mk (Kd.R_after (ok := (fun _ => True)) (by (with_reducible repeat (first | apply Kd.R_alloc | apply Kd.R_drewN | apply Kd.R_drew)); exact Kd.R_mono HO147.out (fun _ hk => ⟨trivial, hk⟩)) hg hat); have n1_ := Aside0.mk (hb); have n2_ := Aside0.mk (ho); clear HO147; clear HB; clear HO_7; have HO147 := n0_; have HB := n1_; have HO152 := n2_; clear n0_ n1_ n2_; clear ho hb hg hat))
               go_roundg k1
               case measure => have := HK1.out; omega
               case rel => exact ⟨(y145), (y150), (wrap64 (x8_1 + 1)), (by first | rfl | (simp; done) | (simp [*]; done)), H', ⟨by have := HK1.out; omega⟩, ⟨by (with_reducible repeat (first | apply Kd.R_alloc | apply Kd.R_drewN | apply Kd.R_drew)); exact Kd.R_mono HO147.out (fun _ hk => hk.2)⟩, ⟨by (with_reducible repeat (first | apply Kd.R_alloc | apply Kd.R_drewN | apply Kd.R_drew)); exact HO152.out⟩, ⟨by repeat (first | (with_reducible first | exact HB.out | apply below_alloc | apply pw_below_drewN | apply below_drew1) | exact HB.out)⟩⟩
             · rw [if_neg c8] at H
               exact absurd H (by simp)
           · rw [if_neg c7] at H
             exact absurd H (by simp)
         · rw [if_neg c6] at H
           exact absurd H (by simp)
       · rw [if_neg c5] at H
         exact absurd H (by simp)
     · rw [if_neg c4] at H
       exact absurd H (by simp)
   · rw [if_neg c3] at H
     have c3b0 : decide (x8_1 < (l0.length : Int)) = false := decide_eq_false c3
     clear c3
     simp only [Option.some.injEq, Prod.mk.injEq] at H
     obtain ⟨rfl, rfl⟩ := H
     go_wp2
     go_ret2
     exact ⟨_, _, by first | rfl | (simp [errW_none, errW_some] <;> rfl) | (simp [*, errW_none, errW_some] <;> rfl), by (with_reducible repeat (first | apply Kd.R_alloc | apply Kd.R_drewN | apply Kd.R_drew)); exact HO_6.out, by (with_reducible repeat (first | apply Kd.R_alloc | apply Kd.R_drewN | apply Kd.R_drew)); exact HO_7.out, by repeat (first | (with_reducible first | exact HB.out | apply below_alloc | apply pw_below_drewN | apply below_drew1) | exact HB.out)⟩
end Go.Proofs.Ytillfbohengpaaa.PA
end
section
set_option linter.unusedVariables false
set_option linter.unusedSimpArgs false
namespace Go.Proofs.Ytillfbohengpaaa
open Go.RowKit Gf Go.Sort
attribute [local go_sem] bits_gx
end Go.Proofs.Ytillfbohengpaaa
end
section
set_option linter.unusedVariables false
set_option linter.unusedSimpArgs false
namespace Go.Proofs.Ytillfbohengpaaa
open Go.RowKit Gf
def acc (a b : G) : Nat → BitVec 16
  | 0 => 0#16
  | k + 1 => if b.getLsbD k then acc a b k ^^^ (a.setWidth 16 <<< k) else acc a b k
def redTo (P : BitVec 16) : Nat → BitVec 16
  | 0 => P
  | j + 1 => if (redTo P j).getLsbD (14 - j) then redTo P j ^^^ (283#16 <<< (6 - j)) else redTo P j
theorem acc_xor (x y b : G) (k : Nat) : acc (x ^^^ y) b k = acc x b k ^^^ acc y b k := by
  induction k with
  | zero => simp [acc]
  | succ k ih =>
    simp only [acc]
    split
    · rw [ih]
      have : (x ^^^ y).setWidth 16 <<< k = x.setWidth 16 <<< k ^^^ y.setWidth 16 <<< k := by
        rw [← BitVec.shiftLeft_xor_distrib]; congr 1
      rw [this]; ac_rfl
    · exact ih
theorem red_xor (P Q : BitVec 16) (k : Nat) : redTo (P ^^^ Q) k = redTo P k ^^^ redTo Q k := by
  induction k with
  | zero => rfl
  | succ k ih =>
    simp only [redTo, ih, BitVec.getLsbD_xor]
    generalize redTo P k = p
    generalize redTo Q k = q
    generalize 283#16 <<< (6 - k) = z
    cases p.getLsbD (14 - k) <;> cases q.getLsbD (14 - k)
    · simp
    · simp; ac_rfl
    · simp; ac_rfl
    · simp only [Bool.xor_self, Bool.false_eq_true, if_false, if_true]
      have : p ^^^ z ^^^ (q ^^^ z) = p ^^^ q ^^^ (z ^^^ z) := by ac_rfl
      rw [this]; simp
def refm (a b : G) : G := (redTo (acc a b 8) 7).setWidth 8
theorem refm_xor (b x y : G) : refm (x ^^^ y) b = refm x b ^^^ refm y b := by
  unfold refm
  rw [acc_xor, red_xor]
  ext i
  simp
theorem refm_basis : ∀ (i : Fin 8) (b : G), refm (1#8 <<< i.val) b = mul (1#8 <<< i.val) b := by decide +kernel
theorem refm_mul (a b : G) : refm a b = mul a b := bits_ext (fun x => refm x b) (fun x => mul x b) (refm_xor b) (fun x y => xmul x y b) (fun i => refm_basis i b) a
theorem tbit (n k : Nat) : (((n : Int) / 2 ^ k).tmod 2 == 1) = n.testBit k := by
  have h1 : ((n : Int) / 2 ^ k).tmod 2 = ((n / 2 ^ k % 2 : Nat) : Int) := by
    rw [show (n : Int) / 2 ^ k = ((n / 2 ^ k : Nat) : Int) by simp]
    rw [Int.tmod_eq_emod_of_nonneg (Int.natCast_nonneg _)]
    simp
  rw [h1, Nat.testBit_eq_decide_div_mod_eq, Bool.eq_iff_iff, beq_iff_eq, decide_eq_true_eq]
  omega
theorem xor16 (P Q : BitVec 16) : bits .xor .i64 (P.toNat : Int) (Q.toNat : Int) = ((P ^^^ Q).toNat : Int) := by
  have hP := P.isLt
  have hQ := Q.isLt
  have hR := (P ^^^ Q).isLt
  have h1 : ∀ X : BitVec 16, BitVec.ofInt 64 (X.toNat : Int) = X.setWidth 64 := fun X => by
    apply BitVec.eq_of_toNat_eq
    simp
  have h3 : P.setWidth 64 ^^^ Q.setWidth 64 = (P ^^^ Q).setWidth 64 := by
    apply BitVec.eq_of_toNat_eq
    rw [BitVec.toNat_xor, BitVec.toNat_setWidth, BitVec.toNat_setWidth, BitVec.toNat_setWidth, Nat.mod_eq_of_lt (by omega), Nat.mod_eq_of_lt (by omega), Nat.mod_eq_of_lt (by omega), BitVec.toNat_xor]
  have h4 : ((P ^^^ Q).setWidth 64).toNat = (P ^^^ Q).toNat := by rw [BitVec.toNat_setWidth, Nat.mod_eq_of_lt (by omega)]
  unfold bits
  simp only [IntKind.bits]
  rw [IntKind.wrap_i64, h1, h1]
  change ((((P.setWidth 64 ^^^ Q.setWidth 64 : BitVec 64)).toNat : Int) + 9223372036854775808) % 18446744073709551616 - 9223372036854775808 = (((P ^^^ Q : BitVec 16)).toNat : Int)
  rw [h3, h4]
  omega
theorem shl16 (a : G) (k : Nat) (h : k < 8) : wrap64 ((a.toNat : Int) * 2 ^ k) = ((a.setWidth 16 <<< k).toNat : Int) := by
  have hk : k = 0 ∨ k = 1 ∨ k = 2 ∨ k = 3 ∨ k = 4 ∨ k = 5 ∨ k = 6 ∨ k = 7 := by omega
  have ha := a.isLt
  rcases hk with rfl | rfl | rfl | rfl | rfl | rfl | rfl | rfl <;> (simp [Nat.shiftLeft_eq]; unfold wrap64; omega)
theorem shl283 (j : Nat) (h : j < 7) : wrap64 ((283 : Int) * 2 ^ j) = ((283#16 <<< j).toNat : Int) := by
  have hk : j = 0 ∨ j = 1 ∨ j = 2 ∨ j = 3 ∨ j = 4 ∨ j = 5 ∨ j = 6 := by omega
  rcases hk with rfl | rfl | rfl | rfl | rfl | rfl | rfl <;> decide +kernel
set_option maxHeartbeats 1000000 in
theorem rmul_u (a b : G) (w : World) :
    Calls Try.prog 19 #[.int .u8 (a.toNat : Int), .int .u8 (b.toNat : Int)] w fun e w' => e = .returned (.int .u8 ((mul a b).toNat : Int)) ∧ Below w.heap.size w w' := by
  go_enter Try.func19, Try.ntmps19
  go_wp2_with fail
  go_loopw [5, 6] (fun sp si wr => ∃ (k : Nat), k ≤ 8 ∧ si = .int .i64 k ∧ sp = .int .i64 ((acc a b k).toNat : Int) ∧ wr = w) (fun _ si _ => 8 - (intOf si).toNat)
  case atStart => exact ⟨0, by omega, rfl, rfl, rfl⟩
  case round =>
    obtain ⟨k, hk, rfl, rfl, rfl⟩ := hrel
    by_cases hlt : k < 8
    · have hbit := tbit b.toNat k
      have hp : acc a b (k + 1) = if b.getLsbD k then acc a b k ^^^ (a.setWidth 16 <<< k) else acc a b k := rfl
      have HP := Lib.hid hp; clear hp
      cases hbb : b.toNat.testBit k with
      | true =>
        rw [hbb] at hbit
        rw [show b.getLsbD k = true from hbb] at HP
        clear hbb
        go_wp2_with fail
        refine ⟨⟨k + 1, by omega, by go_num, ?_, trivial⟩, by simp [intOf]; omega⟩
        rw [HP.out, if_pos rfl, shl16 a k hlt, xor16]
      | false =>
        rw [hbb] at hbit
        rw [show b.getLsbD k = false from hbb] at HP
        clear hbb
        go_wp2_with fail
        refine ⟨⟨k + 1, by omega, by go_num, ?_, trivial⟩, by simp [intOf]; omega⟩
        rw [HP.out, if_neg (by decide)]
    · obtain rfl : k = 8 := by omega
      generalize hP : acc a b 8 = P
      have HP := Lib.hid hP; clear hP
      go_wp2_with fail
      go_loopw [5, 7] (fun sp si wz => ∃ (j : Nat), j ≤ 7 ∧ si = .int .i64 (14 - (j : Int)) ∧ sp = .int .i64 ((redTo P j).toNat : Int) ∧ wz = wr) (fun _ si _ => (intOf si).toNat)
      case atStart => exact ⟨0, by omega, rfl, rfl, rfl⟩
      case round =>
        obtain ⟨j, hj, rfl, rfl, rfl⟩ := hrel
        by_cases hlt : j < 7
        · have hbit := tbit (redTo P j).toNat (14 - j)
          have hp : redTo P (j + 1) = if (redTo P j).getLsbD (14 - j) then redTo P j ^^^ (283#16 <<< (6 - j)) else redTo P j := rfl
          have HQ := Lib.hid hp; clear hp
          obtain ⟨t, ht⟩ : ∃ t, t = 14 - j := ⟨_, rfl⟩
          have ht2 : (14 : Int) - (j : Int) = (t : Int) := by omega
          rw [← ht] at hbit HQ
          rw [ht2]
          have ht3 : 8 ≤ t := by omega
          have ht4 : t ≤ 14 := by omega
          have HT := Lib.hid ht
          clear ht ht2
          cases hbb : (redTo P j).toNat.testBit t with
          | true =>
            rw [hbb] at hbit
            rw [show (redTo P j).getLsbD t = true from hbb] at HQ
            clear hbb
            go_wp2_with fail
            have hT := HT.out
            refine ⟨⟨j + 1, by omega, congrArg (Value.int .i64) (by omega), ?_, trivial⟩, by simp [intOf]; omega⟩
            rw [HQ.out, if_pos rfl, show t - 8 = 6 - j by omega, shl283 (6 - j) (by omega), xor16]
          | false =>
            rw [hbb] at hbit
            rw [show (redTo P j).getLsbD t = false from hbb] at HQ
            clear hbb
            go_wp2_with fail
            have hT := HT.out
            refine ⟨⟨j + 1, by omega, congrArg (Value.int .i64) (by omega), ?_, trivial⟩, by simp [intOf]; omega⟩
            rw [HQ.out, if_neg (by decide)]
        · obtain rfl : j = 7 := by omega
          go_wp2_with fail
          go_ret
          refine ⟨?_, Below.refl _ _⟩
          rw [← refm_mul, ← HP.out]
          unfold refm
          rw [HP.out, BitVec.toNat_setWidth]
          simp
set_option maxRecDepth 100000 in
set_option maxHeartbeats 1000000 in
theorem rinv_u (a : G) (w : World) :
    Calls Try.prog 17 #[.int .u8 (a.toNat : Int)] w fun e w' => e = .returned (.tuple #[.int .u8 ((invR a).1.toNat : Int), .int .i64 (invR a).2]) ∧ Below w.heap.size w w' := by
  go_enter Try.func17, Try.ntmps17
  go_wp2_with fail
  go_loopw [4] (fun si wr => ∃ (i : Nat), 1 ≤ i ∧ i ≤ 256 ∧ si = .int .i64 i ∧ Hid (∀ j : Nat, 1 ≤ j → j < i → mul a (BitVec.ofNat 8 j) ≠ 1#8) ∧ Below w.heap.size w wr) (fun si _ => 256 - (intOf si).toNat)
  case atStart => exact ⟨1, by omega, by omega, rfl, fun j h1 h2 => by omega, Below.refl _ _⟩
  case round =>
    obtain ⟨i, hi1, hi, rfl, HJ, hB⟩ := hrel
    by_cases hlt : i < 256
    · obtain ⟨X, hX⟩ : ∃ X, X = BitVec.ofNat 8 i := ⟨_, rfl⟩
      have hXi : (i : Int) = (X.toNat : Int) := by rw [hX, BitVec.toNat_ofNat]; omega
      have HX := Lib.hid hX
      have HXI := Lib.hid hXi
      clear hX hXi
      go_wp2_with fail
      have hc := rmul_u a X wr
      rw [← HXI.out] at hc
      refine hc.mono ?_
      clear hc
      rintro e w2 ⟨rfl, hb2⟩
      have hB2 := bthen hB hb2
      clear hb2
      by_cases h1 : mul a X = 1#8
      · have hd : (((mul a X).toNat : Int) == 1) = true := by rw [h1]; rfl
        have HA := Lib.hid h1
        clear h1
        go_wp2_with fail
        go_ret2
        have hne : a ≠ 0#8 := by
          rintro rfl
          have := HA.out
          rw [zero_mul] at this
          exact absurd this (by decide)
        refine ⟨?_, hB2⟩
        unfold invR
        rw [if_neg hne, ← inv_unique a X HA.out, ← HXI.out]
        rfl
      · have hd : (((mul a X).toNat : Int) == 1) = false := by
          rw [beq_eq_false_iff_ne]
          intro e
          exact h1 (BitVec.eq_of_toNat_eq (by have e2 : (BitVec.toNat (mul a X) : Int) = 1 := e; show BitVec.toNat (mul a X) = 1; omega))
        have HA := Lib.hid h1
        clear h1
        go_wp2_with fail
        refine ⟨⟨i + 1, by omega, by omega, by go_num, ?_, hB2⟩, by simp [intOf]; omega⟩
        intro j h1 h2
        by_cases e : j = i
        · subst e; rw [← HX.out]; exact HA.out
        · exact HJ.out j h1 (by omega)
    · obtain rfl : i = 256 := by omega
      have hz : a = 0#8 := by
        refine Classical.byContradiction fun h => ?_
        have h1 := HJ.out (inv a).toNat (by
          have := inv_ne a h
          have h2 : (inv a).toNat ≠ 0 := fun e => this (BitVec.eq_of_toNat_eq (by simpa using e))
          omega) (inv a).isLt
        rw [BitVec.ofNat_toNat, BitVec.setWidth_eq] at h1
        exact h1 (mul_inv a h)
      have HZ := Lib.hid hz
      clear hz
      go_wp2_with fail
      go_ret2
      refine ⟨?_, hB⟩
      unfold invR
      rw [if_pos HZ.out]
      rfl
end Go.Proofs.Ytillfbohengpaaa
end
section
namespace Go.Proofs.Ytillfbohengpaaa.PA
open Go.RowKit Go.Proofs.YtillfbohengpaaaW.PrintWords Go.Proofs.YtillfbohengpaaaW.PrintLast Go.Proofs.YtillfbohengpaaaW.PrintMore
attribute [local go_sem] max2_int min2_int max_two min_two max_three min_three max_four min_four   -- for this text's walks alone
set_option linter.unusedVariables false
set_option linter.unusedSimpArgs false
def testamurref07_Mul.f (a0 a1 : Int) : Option Int := if okB a0 = true ∧ okB a1 = true then some (tI (Gf.mul (gI a0) (gI a1))) else none
theorem testamurref07_Mul.calls (a0 a1 : Int) (r : Int) (w : World) (h : testamurref07_Mul.f a0 a1 = some r) :
 Calls Try.prog 19 #[.int .u8 a0, .int .u8 a1] w fun e w' => e = .returned (.int .u8 r) ∧ Below w.heap.size w w' := by
 unfold testamurref07_Mul.f at h
 split at h
 case isFalse => cases h
 rename_i ho
 obtain ⟨h1, h2⟩ := ho
 simp only [okB, Bool.and_eq_true, decide_eq_true_eq] at h1 h2
 injection h with h
 subst h
 have e1 := tI_gI a0 h1.1 h1.2
 have e2 := tI_gI a1 h2.1 h2.2
 generalize gI a0 = x at *
 generalize gI a1 = y at *
 subst e1 e2
 exact rmul_u x y w
end Go.Proofs.Ytillfbohengpaaa.PA
end
section
namespace Go.Proofs.Ytillfbohengpaaa.PA
open Go.RowKit Go.Proofs.YtillfbohengpaaaW.PrintWords Go.Proofs.YtillfbohengpaaaW.PrintLast Go.Proofs.YtillfbohengpaaaW.PrintMore
attribute [local go_sem] max2_int min2_int max_two min_two max_three min_three max_four min_four   -- for this text's walks alone
set_option linter.unusedVariables false
set_option linter.unusedSimpArgs false
mutual
def testamurref07_Points.l0 : Nat → List Int → Int → Option (Bool)
 | 0, _, _ => none
 | k + 1, x0, x5 => if x5 < (x0.length : Int) then (testamurref07_Points.l1 k x0 x5 0) else (some true)
def testamurref07_Points.l1 : Nat → List Int → Int → Int → Option (Bool)
 | 0, _, _, _ => none
 | k + 1, x0, x5, x6 => if x6 < x5 then (if 0 ≤ x6 then (if x6 < (x0.length : Int) then (if 0 ≤ x5 then (if x5 < (x0.length : Int) then (if (rd x0 x6) = (rd x0 x5) then (some false) else (testamurref07_Points.l1 k x0 x5 (wrap64 (x6 + 1)))) else (none)) else (none)) else (none)) else (none)) else (testamurref07_Points.l0 k x0 (wrap64 (x5 + 1)))
end
def testamurref07_Points.f (k : Nat) (l0 : List Int) (l1 : List Int) : Option (Bool) := if (l0.length : Int) = (l1.length : Int) then (testamurref07_Points.l0 k l0 0) else (some false)
set_option maxHeartbeats 8000000 in
set_option maxRecDepth 100000 in
theorem testamurref07_Points.calls (k : Nat) (A0 : Option Addr) (c0 : Nat) (l0 : List Int) (A1 : Option Addr) (c1 : Nat) (l1 : List Int) (r : Bool) (w : World) (hr0 : Kd.C (Kd.int .u8) w A0 l0.length l0) (hc0 : l0.length ≤ c0) (hr1 : Kd.C (Kd.int .u8) w A1 l1.length l1) (hc1 : l1.length ≤ c1) (h : testamurref07_Points.f k l0 l1 = some r) :
 Calls Try.prog 57 #[.slice A0 l0.length c0, .slice A1 l1.length c1] w fun e w' => e = .returned (.bool r) ∧ Drawn0 w w' := by
 have HR0 := Aside0.mk hr0
 have HC0 := Aside0.mk hc0
 clear hr0 hc0
 have HR1 := Aside0.mk hr1
 have HC1 := Aside0.mk hc1
 clear hr1 hc1
 have H : (if (l0.length : Int) = (l1.length : Int) then (testamurref07_Points.l0 k l0 0) else (some false)) = some r := h
 clear h
 by_cases c3 : (l0.length : Int) = (l1.length : Int)
 · rw [if_pos c3] at H
   have c3b0 : ((l0.length : Int) == (l1.length : Int)) = true := beq_iff_eq.mpr c3
   have c3b1 : ((l0.length : Int) != (l1.length : Int)) = false := bne_eq_false_iff_eq.mpr c3
   have c3b2 : (l0.length == l1.length) = true := by first | simpa using c3 | (simp at c3 ⊢; omega)
   clear c3
   have H' := Aside0.mk H
   clear H
   go_enter Try.func57, Try.ntmps57
   go_wp2
   repeat (go_quiet (fail); try go_wp2)
   go_loopg [5] k (fun kq v5 w' => ∃ (x5_1 : Int), v5 = .int .i64 x5_1 ∧ Aside0 (testamurref07_Points.l0 kq l0 x5_1 = some r) ∧ Aside0 (kq ≤ k) ∧ Drawn0 w w')
   case atStart => exact ⟨(0), (by first | rfl | (simp; done) | (simp [*]; done)), H', ⟨Nat.le_refl _⟩, by repeat (first | exact Drawn0.refl _ | apply Drawn0.step)⟩
   case round =>
    clear H'
    try clear c1
    try clear p2
    try clear c3
    try clear c3b0
    try clear c3b1
    try clear c3b2
    obtain ⟨x5_1, rfl, HA, HK1, ⟨m1, rfl⟩⟩ := hrel
    cases gk with
    | zero => exact absurd HA.out (by simp [testamurref07_Points.l0])
    | succ k1 =>
     have H := HA.out
     clear HA
     simp only [testamurref07_Points.l0] at H
     by_cases c4 : x5_1 < (l0.length : Int)
     · rw [if_pos c4] at H
       have c4b0 : decide (x5_1 < (l0.length : Int)) = true := decide_eq_true c4
       clear c4
       have H' := Aside0.mk H
       clear H
       go_wp2
       repeat (go_quiet (fail); try go_wp2)
       go_loopg [6] k1 (fun kq v6 w' => ∃ (x6_2 : Int), v6 = .int .i64 x6_2 ∧ Aside0 (testamurref07_Points.l1 kq l0 x5_1 x6_2 = some r) ∧ Aside0 (kq ≤ k1) ∧ Drawn0 w w')
       case atStart => exact ⟨(0), (by first | rfl | (simp; done) | (simp [*]; done)), H', ⟨Nat.le_refl _⟩, by repeat (first | exact Drawn0.refl _ | apply Drawn0.step)⟩
       case round =>
        clear H'
        try clear c1
        try clear p2
        try clear c3
        try clear c3b0
        try clear c3b1
        try clear c3b2
        try clear c4
        try clear c4b0
        try clear p2
        obtain ⟨x6_2, rfl, HA, HK2, ⟨m2, rfl⟩⟩ := hrel
        cases gk with
        | zero => exact absurd HA.out (by simp [testamurref07_Points.l1])
        | succ k2 =>
         have H := HA.out
         clear HA
         simp only [testamurref07_Points.l1] at H
         by_cases c5 : x6_2 < x5_1
         · rw [if_pos c5] at H
           have c5b0 : decide (x6_2 < x5_1) = true := decide_eq_true c5
           clear c5
           by_cases c6 : 0 ≤ x6_2
           · rw [if_pos c6] at H
             have c6b0 : decide (0 ≤ x6_2) = true := decide_eq_true c6
             clear c6
             by_cases c7 : x6_2 < (l0.length : Int)
             · rw [if_pos c7] at H
               have c7b0 : decide (x6_2 < (l0.length : Int)) = true := decide_eq_true c7
               clear c7
               by_cases c8 : 0 ≤ x5_1
               · rw [if_pos c8] at H
                 have c8b0 : decide (0 ≤ x5_1) = true := decide_eq_true c8
                 clear c8
                 by_cases c9 : x5_1 < (l0.length : Int)
                 · rw [if_pos c9] at H
                   have c9b0 : decide (x5_1 < (l0.length : Int)) = true := decide_eq_true c9
                   clear c9
                   by_cases c10 : (rd l0 x6_2) = (rd l0 x5_1)
                   · rw [if_pos c10] at H
                     have c10b0 : ((rd l0 x6_2) == (rd l0 x5_1)) = true := beq_iff_eq.mpr c10
                     have c10b1 : ((rd l0 x6_2) != (rd l0 x5_1)) = false := bne_eq_false_iff_eq.mpr c10
                     clear c10
                     obtain rfl := Option.some.inj H
                     have p153 : 0 ≤ (x6_2 : Int) := of_decide_eq_true (by first | (with_reducible assumption) | assumption)
                     have q153 : x6_2 < (l0.length : Int) := of_decide_eq_true (by first | (with_reducible assumption) | assumption)
                     obtain ⟨ad153, e153, hx153_0⟩ := Kd.at_int HR0.out x6_2 p153 q153
                     cases e153
                     replace p153 := eq_true p153
                     replace q153 := eq_true q153
                     have p154 : 0 ≤ (x5_1 : Int) := of_decide_eq_true (by first | (with_reducible assumption) | assumption)
                     have q154 : x5_1 < (l0.length : Int) := of_decide_eq_true (by first | (with_reducible assumption) | assumption)
                     obtain ⟨ad154, e154, hx154_0⟩ := Kd.at_int HR0.out x5_1 p154 q154
                     obtain rfl : ad153 = ad154 := (by injection e154)
                     replace p154 := eq_true p154
                     replace q154 := eq_true q154
                     go_wp2
                     repeat (go_quiet (fail); try go_wp2)
                     go_ret
                     exact ⟨by first | rfl | (simp; done) | (simp [*]; done), by repeat (first | exact Drawn0.refl _ | apply Drawn0.step)⟩
                   · rw [if_neg c10] at H
                     have c10b0 : ((rd l0 x6_2) == (rd l0 x5_1)) = false := beq_eq_false_iff_ne.mpr c10
                     have c10b1 : ((rd l0 x6_2) != (rd l0 x5_1)) = true := bne_iff_ne.mpr c10
                     have H' := Aside0.mk H
                     clear H
                     have p153 : 0 ≤ (x6_2 : Int) := of_decide_eq_true (by first | (with_reducible assumption) | assumption)
                     have q153 : x6_2 < (l0.length : Int) := of_decide_eq_true (by first | (with_reducible assumption) | assumption)
                     obtain ⟨ad153, e153, hx153_0⟩ := Kd.at_int HR0.out x6_2 p153 q153
                     cases e153
                     replace p153 := eq_true p153
                     replace q153 := eq_true q153
                     have p154 : 0 ≤ (x5_1 : Int) := of_decide_eq_true (by first | (with_reducible assumption) | assumption)
                     have q154 : x5_1 < (l0.length : Int) := of_decide_eq_true (by first | (with_reducible assumption) | assumption)
                     obtain ⟨ad154, e154, hx154_0⟩ := Kd.at_int HR0.out x5_1 p154 q154
                     obtain rfl : ad153 = ad154 := (by injection e154)
                     replace p154 := eq_true p154
                     replace q154 := eq_true q154
                     go_wp2
                     repeat (go_quiet (fail); try go_wp2)
                     go_roundg k2
                     case measure => have := HK1.out; have := HK2.out; omega
                     case rel => exact ⟨(wrap64 (x6_2 + 1)), (by first | rfl | (simp; done) | (simp [*]; done)), H', ⟨by have := HK1.out; have := HK2.out; omega⟩, by repeat (first | exact Drawn0.refl _ | apply Drawn0.step)⟩
                 · rw [if_neg c9] at H
                   exact absurd H (by simp)
               · rw [if_neg c8] at H
                 exact absurd H (by simp)
             · rw [if_neg c7] at H
               exact absurd H (by simp)
           · rw [if_neg c6] at H
             exact absurd H (by simp)
         · rw [if_neg c5] at H
           have c5b0 : decide (x6_2 < x5_1) = false := decide_eq_false c5
           clear c5
           have H' := Aside0.mk H
           clear H
           go_wp2
           repeat (go_quiet (fail); try go_wp2)
           go_roundg k2
           case measure => have := HK1.out; have := HK2.out; omega
           case rel => exact ⟨(wrap64 (x5_1 + 1)), (by first | rfl | (simp; done) | (simp [*]; done)), H', ⟨by have := HK1.out; have := HK2.out; omega⟩, by repeat (first | exact Drawn0.refl _ | apply Drawn0.step)⟩
     · rw [if_neg c4] at H
       have c4b0 : decide (x5_1 < (l0.length : Int)) = false := decide_eq_false c4
       clear c4
       obtain rfl := Option.some.inj H
       go_wp2
       repeat (go_quiet (fail); try go_wp2)
       go_ret
       exact ⟨by first | rfl | (simp; done) | (simp [*]; done), by repeat (first | exact Drawn0.refl _ | apply Drawn0.step)⟩
 · rw [if_neg c3] at H
   have c3b0 : ((l0.length : Int) == (l1.length : Int)) = false := beq_eq_false_iff_ne.mpr c3
   have c3b1 : ((l0.length : Int) != (l1.length : Int)) = true := bne_iff_ne.mpr c3
   have c3b2 : (l0.length == l1.length) = false := by first | simpa using c3 | (simp at c3 ⊢; omega)
   obtain rfl := Option.some.inj H
   go_enter Try.func57, Try.ntmps57
   go_wp2
   repeat (go_quiet (fail); try go_wp2)
   go_ret
   exact ⟨by first | rfl | (simp; done) | (simp [*]; done), by repeat (first | exact Drawn0.refl _ | apply Drawn0.step)⟩
end Go.Proofs.Ytillfbohengpaaa.PA
end
section
namespace Go.Proofs.Ytillfbohengpaaa.PA
open Go.RowKit Go.Proofs.YtillfbohengpaaaW.PrintWords Go.Proofs.YtillfbohengpaaaW.PrintLast Go.Proofs.YtillfbohengpaaaW.PrintMore
attribute [local go_sem] max2_int min2_int max_two min_two max_three min_three max_four min_four   -- for this text's walks alone
set_option linter.unusedVariables false
set_option linter.unusedSimpArgs false
def testamurref07_Inv.f (a0 : Int) : Option (Int × Int) := if okB a0 = true then some (tI (invR (gI a0)).1, (invR (gI a0)).2) else none
theorem testamurref07_Inv.calls (a0 : Int) (r1 r2 : Int) (w : World) (h : testamurref07_Inv.f a0 = some (r1, r2)) :
 Calls Try.prog 17 #[.int .u8 a0] w fun e w' => e = .returned (.tuple #[.int .u8 r1, .int .i64 r2]) ∧ Below w.heap.size w w' := by
 unfold testamurref07_Inv.f at h
 split at h
 case isFalse => cases h
 rename_i h1
 simp only [okB, Bool.and_eq_true, decide_eq_true_eq] at h1
 injection h with h
 injection h with h2 h3
 subst h2 h3
 have e1 := tI_gI a0 h1.1 h1.2
 generalize gI a0 = x at *
 subst e1
 exact rinv_u x w
end Go.Proofs.Ytillfbohengpaaa.PA
end
section
namespace Go.Proofs.Ytillfbohengpaaa.PA
open Go.RowKit Go.Proofs.YtillfbohengpaaaW.PrintWords Go.Proofs.YtillfbohengpaaaW.PrintLast Go.Proofs.YtillfbohengpaaaW.PrintMore
attribute [local go_sem] max2_int min2_int max_two min_two max_three min_three max_four min_four   -- for this text's walks alone
set_option linter.unusedVariables false
set_option linter.unusedSimpArgs false
def testamurref07_over.f (a0 : Int) (a1 : Int) : Option (Int) := (testamurref07_Inv.f a1).bind fun bt155 => ((testamurref07_Mul.f a0 bt155.1).bind fun t157 => (some t157))
set_option maxHeartbeats 8000000 in
set_option maxRecDepth 100000 in
theorem testamurref07_over.calls (a0 : Int) (a1 : Int) (r : Int) (w : World) (h : testamurref07_over.f a0 a1 = some r) :
 Calls Try.prog 58 #[.int .u8 a0, .int .u8 a1] w fun e w' => e = .returned (.int .u8 r) ∧ Below w.heap.size w w' := by
 have HB := Aside0.mk (Below.refl w.heap.size w)
 have H : ((testamurref07_Inv.f a1).bind fun bt155 => ((testamurref07_Mul.f a0 bt155.1).bind fun t157 => (some t157))) = some r := h
 clear h
 replace H := Option.bind_eq_some_iff.mp H
 obtain ⟨⟨t155, t156⟩, A30, H⟩ := H
 replace H : ((testamurref07_Mul.f a0 t155).bind fun t157 => (some t157)) = some r := H
 have A3 := Aside0.mk A30
 clear A30
 replace H := Option.bind_eq_some_iff.mp H
 obtain ⟨t157, A40, H⟩ := H
 replace H : (some t157) = some r := H
 have A4 := Aside0.mk A40
 clear A40
 obtain rfl := Option.some.inj H
 go_enter Try.func58, Try.ntmps58
 go_wp2_with (first | ((with_reducible refine gate_callee (f := 17) rfl ?_); refine goesL_ (some 9) rfl rfl Try.func17 (by kernel_rfl) rfl #[.int .u8 a1] rfl (by (try simp only [List.map_toArray, List.map_cons, List.map_nil]); first | done | rfl | (simp only [List.length_drop, List.length_take]; rfl)) ?_; (with_reducible refine (testamurref07_Inv.calls a1 t155 t156 _ A3.out).mono ?_); rintro e w5 ⟨rfl, hb⟩; refine ⟨_, rfl, ?_⟩; have n0_ := Aside0.mk (below_step (by repeat (first | (with_reducible first | exact HB.out | apply below_alloc | apply pw_below_drewN | apply below_drew1) | exact HB.out)) hb); clear HB; have HB := n0_; clear n0_; (try clear hb); (try clear hb2); (try clear hk); (try clear hi)) | ((with_reducible refine gate_callee (f := 19) rfl ?_); refine goesL_ (some 14) rfl rfl Try.func19 (by kernel_rfl) rfl #[.int .u8 a0, .int .u8 t155] rfl (by (try simp only [List.map_toArray, List.map_cons, List.map_nil]); first | done | rfl | (simp only [List.length_drop, List.length_take]; rfl)) ?_; (with_reducible refine (testamurref07_Mul.calls a0 t155 t157 _ A4.out).mono ?_); rintro e w6 ⟨rfl, hb⟩; refine ⟨_, rfl, ?_⟩; have n0_ := Aside0.mk (below_step (by repeat (first | (with_reducible first | exact HB.out | apply below_alloc | apply pw_below_drewN | apply below_drew1) | exact HB.out)) hb); clear HB; have HB := n0_; clear n0_; (try clear hb); (try clear hb2); (try clear hk); (try clear hi)))
 go_ret
 exact ⟨by first | rfl | (simp [errW_none, errW_some] <;> rfl) | (simp [*, errW_none, errW_some] <;> rfl), by repeat (first | (with_reducible first | exact HB.out | apply below_alloc | apply pw_below_drewN | apply below_drew1) | exact HB.out)⟩
end Go.Proofs.Ytillfbohengpaaa.PA
end
section
set_option linter.unusedVariables false
set_option linter.unusedSimpArgs false
namespace Go.Proofs.Ytillfbohengpaaa
open Go.RowKit Gf Go.Sort Go.Proofs.YtillfbohengpaaaW.PrintWords PA
attribute [local go_sem] bits_gx
set_option maxRecDepth 100000 in
set_option maxHeartbeats 2000000 in
theorem times_u (A : Option Addr) (n c : Nat) (l : List G) (a b : G) (w : World) (h : RL gv w A n l) (hn : n ≤ 100000) : Calls Try.prog 59 #[.slice A n c, gv a, gv b] w fun e w' => ∃ v, e = .returned v ∧ OwnL gv 5 w' w.heap.size v (n + 1) (lin l a b) ∧ Below w.heap.size w w' := by
  obtain ⟨i0, hi, hz0, hz1, hz2⟩ := info_parts Try.info5
  have hll := Lib.hid h.1
  go_enter Try.func59, Try.ntmps59
  go_wp2_with (at_make; refine wpList_mk (enc := gv) (base := w.heap.size) rfl _ _ 30 rfl 0#8 (n + 1) slice_u8 hi hz0 hz1 hz2 rfl _ _ _ _ rfl rfl (by omega) (by omega) (by omega) (by omega) (Nat.le_refl _) ?_; intro w1 hx hb1)
  rw [show List.replicate (n + 1) 0#8 = linTo l a b 0 by rw [linTo_zero, hll.out]] at hx
  go_loopw [8] (fun si wr => ∃ (j : Nat), j ≤ n ∧ si = .int .i64 j ∧ OwnL gv 5 wr w.heap.size (.slice (some ⟨w.heap.size, 0, none⟩) (n + 1) (n + 1)) (n + 1) (linTo l a b j) ∧ Below w.heap.size w wr) (fun si _ => n - (intOf si).toNat)
  case atStart => exact ⟨0, by omega, rfl, hx, hb1⟩
  case round =>
    obtain ⟨j, hj, rfl, hx6, hB6⟩ := hrel
    clear hx hb1
    by_cases hjlt : j < n
    · obtain ⟨bl, ol, rfl, hbl, hcl⟩ := h.atg j hjlt
      have hcl6 := (hB6.cell (p := ⟨bl, ol + j, none⟩) hbl).trans hcl
      have hcn := hx6.cellg j (by omega)
      generalize hT : g (linTo l a b j) j = T at hcn
      have HT := Lib.hid hT.symm; clear hT
      generalize hZ : g l j = Z at hcl hcl6
      have HZ := Lib.hid hZ.symm; clear hZ
      go_wp2_with fail
      have hcn' : ∀ (dr : Nat) (os : Array Obj), (grow (redrawn wr dr) os).cell? ⟨w.heap.size, j, none⟩ = some (gv T) := cell_regrown hcn
      have hcl' : ∀ (dr : Nat) (os : Array Obj), (grow (redrawn wr dr) os).cell? ⟨bl, ol + j, none⟩ = some (gv Z) := cell_regrown hcl6
      have hj1 : j < n + 1 := by omega
      have hj2 : (j : Int) < (n : Int) := by omega
      have hj3 : (j : Int) < (n : Int) + 1 := by omega
      have hj4 : (j : Int) + 1 < (n : Int) + 1 := by omega
      have hj5 : j + 1 < n + 1 := by omega
      refine wp_region_qt 13 mixed (by kernel_rfl) (by decide) (by kernel_rfl) ?_
      repeat (quiet_step ((go_at_call 19; exact Calls.regrown_of (rmul_u _ _ _))))
      refine wpQuiet_nil ?_
      intro w9 hb9
      have hgw := (hx6.lt _ rfl).2
      have hB9 := bthenB hB6 hB6.size hb9
      have hx9 := hx6.below hb9
      have hcn9 : w9.cell? ⟨w.heap.size, j, none⟩ = some (gv T) := (hb9.cell (p := ⟨w.heap.size, j, none⟩) hgw).trans hcn
      have hfr := hx9.free j
      clear hcn' hcl' hcn hcl6
      go_wp2_with fail
      have hx10 := hx9.set j (gx T (mul Z a))
      have hmid : (linTo l a b j).set j (gx T (mul Z a)) = linMid l a b j := by rw [HT.out, HZ.out]; rfl
      rw [hmid] at hx10
      have hB10 : Below w.heap.size w (w9.setCell ⟨w.heap.size, j, none⟩ (gv (gx T (mul Z a)))) := hB9.setCell (by simp) _
      generalize w9.setCell ⟨w.heap.size, j, none⟩ (gv (gx T (mul Z a))) = w10 at *
      have hcl10 := (hB10.cell (p := ⟨bl, ol + j, none⟩) hbl).trans hcl
      have hcm := hx10.cellg (j + 1) (by omega)
      generalize hV : g (linMid l a b j) (j + 1) = V at hcm
      have HV := Lib.hid hV.symm; clear hV
      have HM := Lib.hid hmid
      clear hmid hcn9 hfr hx9 hx6 hcl
      have hcm' : ∀ (dr : Nat) (os : Array Obj), (grow (redrawn w10 dr) os).cell? ⟨w.heap.size, j + 1, none⟩ = some (gv V) := cell_regrown hcm
      have hcl' : ∀ (dr : Nat) (os : Array Obj), (grow (redrawn w10 dr) os).cell? ⟨bl, ol + j, none⟩ = some (gv Z) := cell_regrown hcl10
      have hq2 : (0 : Int) ≤ (j : Int) + 1 := by omega
      have hq3 : ((j : Int) + 1).toNat = j + 1 := by omega
      have hq1 : IntKind.i64.wrap ((j : Int) + 1) = (j : Int) + 1 := IntWalk.i64_in _ (by omega)
      refine wp_region_qt 15 mixed (by kernel_rfl) (by decide) (by kernel_rfl) ?_
      repeat (quiet_step ((go_at_call 19; exact Calls.regrown_of (rmul_u _ _ _))))
      refine wpQuiet_nil ?_
      intro w11 hb11
      clear hq1 hq3
      have hgw2 := (hx10.lt _ rfl).2
      have hB11 := bthenB hB10 hB10.size hb11
      have hx11 := hx10.below hb11
      have hcm11 : w11.cell? ⟨w.heap.size, j + 1, none⟩ = some (gv V) := (hb11.cell (p := ⟨w.heap.size, j + 1, none⟩) hgw2).trans hcm
      have hfr2 := hx11.free (j + 1)
      clear hcm' hcl' hcm hcl10
      go_wp2_with fail
      refine ⟨⟨j + 1, by omega, by go_num, ?_, hB11.setCell (by simp) _⟩, by simp [intOf]; omega⟩
      have hst := linTo_set l a b j (by rw [hll.out]; exact hjlt)
      rw [← HV.out, ← HZ.out] at hst
      rw [← hst]
      exact hx11.set (j + 1) _
    · obtain rfl : j = n := by omega
      have hla := linTo_all l a b
      rw [hll.out] at hla
      rw [hla] at hx6
      clear hla
      go_wp2_with fail
      go_ret
      exact ⟨_, rfl, hx6, hB6⟩
end Go.Proofs.Ytillfbohengpaaa
end
section
namespace Go.Proofs.Ytillfbohengpaaa.PA
open Go.RowKit Go.Proofs.YtillfbohengpaaaW.PrintWords Go.Proofs.YtillfbohengpaaaW.PrintLast Go.Proofs.YtillfbohengpaaaW.PrintMore
attribute [local go_sem] max2_int min2_int max_two min_two max_three min_three max_four min_four   -- for this text's walks alone
set_option linter.unusedVariables false
set_option linter.unusedSimpArgs false
def testamurref07_times.f (l0 : List Int) (a1 a2 : Int) : Option (List Int) := if isB l0 = true ∧ okB a1 = true ∧ okB a2 = true ∧ l0.length ≤ 100000 then some ((Gf.lin (l0.map gI) (gI a1) (gI a2)).map tI) else none
theorem testamurref07_times.calls (A0 : Option Addr) (c0 : Nat) (l0 : List Int) (a1 a2 : Int) (r : List Int) (w : World) (hr0 : Kd.C (Kd.int .u8) w A0 l0.length l0) (hc0 : l0.length ≤ c0) (h : testamurref07_times.f l0 a1 a2 = some r) :
 Calls Try.prog 59 #[.slice A0 l0.length c0, .int .u8 a1, .int .u8 a2] w fun e w' => ∃ v0_ : Value, e = .returned v0_ ∧ Kd.R (Kd.int .u8) 5 w' w.heap.size (fun _ => True) v0_ r ∧ Below w.heap.size w w' := by
 unfold testamurref07_times.f at h
 split at h
 case isFalse => cases h
 rename_i ho
 obtain ⟨h0, h1, h2, hn⟩ := ho
 obtain ⟨l, rfl⟩ := ex_isB h0
 simp only [okB, Bool.and_eq_true, decide_eq_true_eq] at h1 h2
 rw [gI_map] at h
 injection h with h
 subst h
 have e1 := tI_gI a1 h1.1 h1.2
 have e2 := tI_gI a2 h2.1 h2.2
 generalize gI a1 = x at *
 generalize gI a2 = y at *
 subst e1 e2
 refine (times_u A0 _ c0 l x y w (rl_of_C hr0) hn).mono ?_
 rintro e w' ⟨v, rfl, hs, hb⟩
 exact ⟨v, rfl, R_of_own hs (fun _ _ => trivial), hb⟩
end Go.Proofs.Ytillfbohengpaaa.PA
end
section
namespace Go.Proofs.Ytillfbohengpaaa.PA
open Go.RowKit Go.Proofs.YtillfbohengpaaaW.PrintWords Go.Proofs.YtillfbohengpaaaW.PrintLast Go.Proofs.YtillfbohengpaaaW.PrintMore
attribute [local go_sem] max2_int min2_int max_two min_two max_three min_three max_four min_four   -- for this text's walks alone
set_option linter.unusedVariables false
set_option linter.unusedSimpArgs false
mutual
def testamurref07_Coefficients.l0 : Nat → List Int → List Int → List Int → Int → Option (List Int × Int)
 | 0, _, _, _, _ => none
 | k + 1, x0, x1, x6, x7 => if x7 < (x0.length : Int) then (if 0 ≤ x7 then (if x7 < (x1.length : Int) then (testamurref07_Coefficients.l1 k x0 x1 x6 x7 (([rd x1 x7] : List Int)) 0) else (none)) else (none)) else (some (x6, 0))
def testamurref07_Coefficients.l1 : Nat → List Int → List Int → List Int → Int → List Int → Int → Option (List Int × Int)
 | 0, _, _, _, _, _, _ => none
 | k + 1, x0, x1, x6, x7, x8, x9 => if x9 < (x0.length : Int) then (if x9 = x7 then (testamurref07_Coefficients.l1 k x0 x1 x6 x7 x8 (wrap64 (x9 + 1))) else (if 0 ≤ x7 then (if x7 < (x0.length : Int) then (if 0 ≤ x9 then ((testamurref07_over.f 1 (Go.bits .xor .u8 (rd x0 x7) (rd x0 x9))).bind fun t252 => ((testamurref07_Mul.f t252 (rd x0 x9)).bind fun t254 => ((testamurref07_times.f x8 t254 t252).bind fun t255 => (testamurref07_Coefficients.l1 k x0 x1 x6 x7 t255 (wrap64 (x9 + 1)))))) else (none)) else (none)) else (none))) else (testamurref07_Coefficients.l2 k x0 x1 x6 x7 x8 0)
def testamurref07_Coefficients.l2 : Nat → List Int → List Int → List Int → Int → List Int → Int → Option (List Int × Int)
 | 0, _, _, _, _, _, _ => none
 | k + 1, x0, x1, x6, x7, x8, x11 => if x11 < (x8.length : Int) then (if 0 ≤ x11 then (if x11 < (x6.length : Int) then (testamurref07_Coefficients.l2 k x0 x1 (x6.set (x11 : Int).toNat (Go.bits .xor .u8 (rd x6 x11) (rd x8 x11))) x7 x8 (wrap64 (x11 + 1))) else (none)) else (none)) else (testamurref07_Coefficients.l0 k x0 x1 x6 (wrap64 (x7 + 1)))
end
def testamurref07_Coefficients.f (k : Nat) (l0 : List Int) (l1 : List Int) : Option (List Int × Int) := (testamurref07_Points.f k l0 l1).bind fun t242 => (if t242 = true then (if 0 ≤ (l0.length : Int) then (if ((l0.length : Int) : Int).toNat ≤ 281474976710656 then (testamurref07_Coefficients.l0 k l0 l1 (List.replicate ((l0.length : Int) : Int).toNat 0) 0) else (none)) else (none)) else (some (([] : List Int), 1)))
def testamurref07_Coefficients.T12 : Bool × List (List Nat × List Nat) := (true, [([], []), ([], []), ([0, 1], [0, 1]), ([2], [2]), ([], []), ([], []), ([4, 5], [4, 5]), ([6], [6]), ([3, 7], [3, 7]), ([8], [8]), ([9, 9, 0, 1, 2, 3, 4, 5, 6, 7, 8, 9], [9])])
def testamurref07_Coefficients.B12 : List Nat := [0, 0, 3, 7, 0, 0, 48, 112, 255, 511, 1023]
theorem testamurref07_Coefficients.tab12 : rtab .any (opsOf Try.f53 12) = testamurref07_Coefficients.T12 := by kernel_rfl
theorem testamurref07_Coefficients.bits12 : waitsOk testamurref07_Coefficients.T12.2 testamurref07_Coefficients.B12 = true := by kernel_rfl
def testamurref07_Coefficients.T17 : Bool × List (List Nat × List Nat) := (true, [([], []), ([], []), ([], []), ([], []), ([2, 3], [2, 3]), ([4], [4]), ([], []), ([], []), ([6, 7], [6, 7]), ([8], [8]), ([5, 9], [5, 9]), ([0, 1, 0, 1, 2, 3, 4, 5, 6, 7, 8, 9, 10], [0, 1]), ([11, 10, 0, 1, 2, 3, 4, 5, 6, 7, 8, 9, 10], [10, 11])])
def testamurref07_Coefficients.B17 : List Nat := [0, 0, 0, 0, 12, 28, 0, 0, 192, 448, 1020, 2047, 4095]
theorem testamurref07_Coefficients.tab17 : rtab .any (opsOf Try.f53 17) = testamurref07_Coefficients.T17 := by kernel_rfl
theorem testamurref07_Coefficients.bits17 : waitsOk testamurref07_Coefficients.T17.2 testamurref07_Coefficients.B17 = true := by kernel_rfl
set_option maxHeartbeats 8000000 in
set_option maxRecDepth 100000 in
theorem testamurref07_Coefficients.calls (k : Nat) (A0 : Option Addr) (c0 : Nat) (l0 : List Int) (A1 : Option Addr) (c1 : Nat) (l1 : List Int) (r1 : List Int) (r2 : Int) (w : World) (hr0 : Kd.C (Kd.int .u8) w A0 l0.length l0) (hc0 : l0.length ≤ c0) (hr1 : Kd.C (Kd.int .u8) w A1 l1.length l1) (hc1 : l1.length ≤ c1) (h : testamurref07_Coefficients.f k l0 l1 = some (r1, r2)) :
 Calls Try.prog 53 #[.slice A0 l0.length c0, .slice A1 l1.length c1] w fun e w' => ∃ v0_ : Value, e = .returned (.tuple #[v0_, .int .i64 r2]) ∧ Kd.R (Kd.int .u8) 5 w' w.heap.size (fun _ => True) v0_ r1 ∧ Below w.heap.size w w' := by
 have HR0 := Aside0.mk hr0
 have HC0 := Aside0.mk hc0
 clear hr0 hc0
 have HR1 := Aside0.mk hr1
 have HC1 := Aside0.mk hc1
 clear hr1 hc1
 have HB := Aside0.mk (Below.refl w.heap.size w)
 have H : ((testamurref07_Points.f k l0 l1).bind fun t242 => (if t242 = true then (if 0 ≤ (l0.length : Int) then (if ((l0.length : Int) : Int).toNat ≤ 281474976710656 then (testamurref07_Coefficients.l0 k l0 l1 (List.replicate ((l0.length : Int) : Int).toNat 0) 0) else (none)) else (none)) else (some (([] : List Int), 1)))) = some (r1, r2) := h
 clear h
 replace H := Option.bind_eq_some_iff.mp H
 obtain ⟨t242, A30, H⟩ := H
 replace H : (if t242 = true then (if 0 ≤ (l0.length : Int) then (if ((l0.length : Int) : Int).toNat ≤ 281474976710656 then (testamurref07_Coefficients.l0 k l0 l1 (List.replicate ((l0.length : Int) : Int).toNat 0) 0) else (none)) else (none)) else (some (([] : List Int), 1))) = some (r1, r2) := H
 have A3 := Aside0.mk A30
 clear A30
 by_cases c4 : t242 = true
 · subst c4
   have H1 : (if 0 ≤ (l0.length : Int) then (if ((l0.length : Int) : Int).toNat ≤ 281474976710656 then (testamurref07_Coefficients.l0 k l0 l1 (List.replicate ((l0.length : Int) : Int).toNat 0) 0) else (none)) else (none)) = some (r1, r2) := by rw [if_pos rfl] at H; exact H
   clear H
   have H := H1
   clear H1
   by_cases c5 : 0 ≤ (l0.length : Int)
   · rw [if_pos c5] at H
     have c5b0 := eq_true c5
     have c5b1 : decide (0 ≤ (l0.length : Int)) = true := decide_eq_true c5
     clear c5
     by_cases c6 : ((l0.length : Int) : Int).toNat ≤ 281474976710656
     · rw [if_pos c6] at H
       have c6b0 := eq_true c6
       have c6b1 : decide (((l0.length : Int) : Int).toNat ≤ 281474976710656) = true := decide_eq_true c6
       clear c6
       obtain ⟨y243, hy243⟩ : ∃ y_ : List Int, y_ = (List.replicate ((l0.length : Int) : Int).toNat 0) := ⟨_, rfl⟩
       replace H : (testamurref07_Coefficients.l0 k l0 l1 y243 0) = some (r1, r2) := by first | (rw [hy243]; with_reducible exact H) | (have H2_ := (Option.bind_some _ _).symm.trans H; rw [hy243]; with_reducible exact H2_) | (have H2_ := (Option.bind_some _ _).symm.trans H; with_reducible exact H2_) | with_reducible exact H | (rw [hy243]; exact H) | exact H
       have Ny243 := Aside0.mk hy243
       clear hy243
       have H' := Aside0.mk H
       clear H
       go_enter Try.func53, Try.ntmps53
       go_wp2_with (first | ((with_reducible refine gate_callee (f := 57) rfl ?_); refine goesL_ (some 14) rfl rfl Try.func57 (by kernel_rfl) rfl #[.slice A0 l0.length c0, .slice A1 l1.length c1] rfl (by (try simp only [List.map_toArray, List.map_cons, List.map_nil]); first | done | rfl | (simp only [List.length_drop, List.length_take]; rfl)) ?_; (with_reducible refine (testamurref07_Points.calls k _ _ l0 _ _ l1 true _ ?side1 ?side2 ?side3 ?side4 A3.out).mono ?_); (case side1 => repeat (first | exact HR0.out | (with_reducible refine Kd.C_alloc ?_ _) | (with_reducible refine Kd.C_drewN ?_ _) | (with_reducible refine Kd.C_drew ?_))); (case side2 => exact HC0.out); (case side3 => repeat (first | exact HR1.out | (with_reducible refine Kd.C_alloc ?_ _) | (with_reducible refine Kd.C_drewN ?_ _) | (with_reducible refine Kd.C_drew ?_))); (case side4 => exact HC1.out); rintro e w' ⟨rfl, ⟨nd, rfl⟩⟩; refine ⟨_, rfl, ?_⟩) | ((with_reducible refine gate_dst (N := 18) rfl ?_); refine Kd.R_make (Kd.int .u8) _ 5 rfl (N := 18) rfl 30 _ _ rfl (l0.length : Int) rfl rfl Try.underlying30 (.int .u8 0) 1 info5 rfl (by decide) (by omega) 0 (ok := fun _ => True) (okp := fun _ => True) rfl (fun _ hk => hk) trivial (of_decide_eq_true (by first | (with_reducible assumption) | assumption)) (Nat.le_trans (Nat.mul_le_mul_right _ (of_decide_eq_true (by first | (with_reducible assumption) | assumption) : (l0.length : Int).toNat ≤ 281474976710656)) (by omega)) (Below.refl _ _) (Nat.le_refl _) ?_; intro v244 w7 ho8 hb hg_ hnew_; clear hg_ hnew_; (first | rw [← Ny243.out] at ho8 | (simp only [Int.reduceToNat] at ho8; rw [← Ny243.out] at ho8)); have n0_ := Aside0.mk (Kd.R_lower ho8 (below_size (by repeat (first | (with_reducible first | exact HB.out | apply below_alloc | apply pw_below_drewN | apply below_drew1) | exact HB.out)))); have n1_ := Aside0.mk (below_step (by repeat (first | (with_reducible first | exact HB.out | apply below_alloc | apply pw_below_drewN | apply below_drew1) | exact HB.out)) hb); clear HB; have HO245 := n0_; have HB := n1_; clear n0_ n1_; clear hb ho8))
       go_loopg [7] k (fun kq v7 w' => ∃ (x6_1 : List Int) (x7_1 : Int), v7 = .int .i64 x7_1 ∧ Aside0 (testamurref07_Coefficients.l0 kq l0 l1 x6_1 x7_1 = some (r1, r2)) ∧ Aside0 (kq ≤ k) ∧ Aside0 (Kd.R (Kd.int .u8) 5 w' w.heap.size (fun _ => True) v244 x6_1) ∧ Aside0 (Below w.heap.size w w'))
       case atStart => exact ⟨(y243), (0), (by first | rfl | (simp; done) | (simp [*]; done)), H', ⟨Nat.le_refl _⟩, ⟨by (with_reducible repeat (first | apply Kd.R_alloc | apply Kd.R_drewN | apply Kd.R_drew)); exact HO245.out⟩, ⟨by repeat (first | (with_reducible first | exact HB.out | apply below_alloc | apply pw_below_drewN | apply below_drew1) | exact HB.out)⟩⟩
       case round =>
        clear H'
        try clear c1
        try clear p2
        try clear c4
        try clear c5
        try clear c5b0
        try clear c5b1
        try clear c6
        try clear c6b0
        try clear c6b1
        obtain ⟨x6_1, x7_1, rfl, HA, HK1, HO_6, HB⟩ := hrel
        cases gk with
        | zero => exact absurd HA.out (by simp [testamurref07_Coefficients.l0])
        | succ k1 =>
         have H := HA.out
         clear HA
         simp only [testamurref07_Coefficients.l0] at H
         by_cases c9 : x7_1 < (l0.length : Int)
         · rw [if_pos c9] at H
           have c9b0 : decide (x7_1 < (l0.length : Int)) = true := decide_eq_true c9
           clear c9
           by_cases c10 : 0 ≤ x7_1
           · rw [if_pos c10] at H
             have c10b0 : decide (0 ≤ x7_1) = true := decide_eq_true c10
             clear c10
             by_cases c11 : x7_1 < (l1.length : Int)
             · rw [if_pos c11] at H
               have c11b0 : decide (x7_1 < (l1.length : Int)) = true := decide_eq_true c11
               clear c11
               obtain ⟨y247, hy247⟩ : ∃ y_ : List Int, y_ = (([rd l1 x7_1] : List Int)) := ⟨_, rfl⟩
               replace H : (testamurref07_Coefficients.l1 k1 l0 l1 x6_1 x7_1 y247 0) = some (r1, r2) := by first | (rw [hy247]; with_reducible exact H) | (have H2_ := (Option.bind_some _ _).symm.trans H; rw [hy247]; with_reducible exact H2_) | (have H2_ := (Option.bind_some _ _).symm.trans H; with_reducible exact H2_) | with_reducible exact H | (rw [hy247]; exact H) | exact H
               have Ny247 := Aside0.mk hy247
               clear hy247
               have H' := Aside0.mk H
               clear H
               have p246 : 0 ≤ (x7_1 : Int) := of_decide_eq_true (by first | (with_reducible assumption) | assumption)
               have q246 : x7_1 < (l1.length : Int) := of_decide_eq_true (by first | (with_reducible assumption) | assumption)
               obtain ⟨ad246, e246, hx246_0⟩ := Kd.at_int HR1.out x7_1 p246 q246
               cases e246
               replace hx246_0 := (HB.out.cell (World.block_lt_of_cell? w _ hx246_0)).trans hx246_0
               replace p246 := eq_true p246
               replace q246 := eq_true q246
               go_wp2_with (first | ((with_reducible refine gate_dst (N := 29) rfl ?_); refine Kd.R_lit (Kd.int .u8) _ 5 ?hg (N := 29) ?hd (xs := ([rd l1 x7_1] : List Int)) (inner := [.int .u8 (rd l1 x7_1)]) (ok := fun _ => True) (okp := fun _ => True) ?hr ?hp (fun _ hk => hk) trivial (Below.refl _ _) (Nat.le_refl _) (by simp) ?_; (case hd => rfl); (case hg => rfl); (case hr => first | (go_simp; done) | (go_simp; rfl)); (case hp => exact (Reps.one (show Kd.M (Kd.int .u8) _ _ _ (rd l1 x7_1) [.int .u8 (rd l1 x7_1)] from rfl) (Reps.none _ _))); intro v248 w12 ho13 hb hg_ hnew_; clear hg_ hnew_; (first | rw [← Ny247.out] at ho13 | (simp only [Int.reduceToNat] at ho13; rw [← Ny247.out] at ho13)); have n0_ := Aside0.mk (Kd.R_elder' (by (with_reducible repeat (first | apply Kd.R_alloc | apply Kd.R_drewN | apply Kd.R_drew)); exact HO_6.out) (Kd.R_base ho13) hb); have n1_ := Aside0.mk (Kd.R_lower (Kd.R_new' ho13 (Kd.R_lt (by (with_reducible repeat (first | apply Kd.R_alloc | apply Kd.R_drewN | apply Kd.R_drew)); exact HO_6.out))) (below_size (by repeat (first | (with_reducible first | exact HB.out | apply below_alloc | apply pw_below_drewN | apply below_drew1) | exact HB.out)))); have n2_ := Aside0.mk (below_step (by repeat (first | (with_reducible first | exact HB.out | apply below_alloc | apply pw_below_drewN | apply below_drew1) | exact HB.out)) hb); clear HO_6; clear HB; have HO_6 := n0_; have HO249 := n1_; have HB := n2_; clear n0_ n1_ n2_; clear hb ho13))
               go_loopg [8, 9] k1 (fun kq v8 v9 w' => ∃ (x8_2 : List Int) (x9_2 : Int), v9 = .int .i64 x9_2 ∧ Aside0 (testamurref07_Coefficients.l1 kq l0 l1 x6_1 x7_1 x8_2 x9_2 = some (r1, r2)) ∧ Aside0 (kq ≤ k1) ∧ Aside0 (Kd.R (Kd.int .u8) 5 w' w.heap.size (fun k_ => some k_ ≠ (v8 : Value).ownBlock) v244 x6_1) ∧ Aside0 (Kd.R (Kd.int .u8) 5 w' w.heap.size (fun k_ => some k_ ≠ (v244 : Value).ownBlock) v8 x8_2) ∧ Aside0 (Below w.heap.size w w'))
               case atStart => exact ⟨(y247), (0), (by first | rfl | (simp; done) | (simp [*]; done)), H', ⟨Nat.le_refl _⟩, ⟨by (with_reducible repeat (first | apply Kd.R_alloc | apply Kd.R_drewN | apply Kd.R_drew)); exact Kd.R_mono HO_6.out (fun _ hk => hk.2)⟩, ⟨by (with_reducible repeat (first | apply Kd.R_alloc | apply Kd.R_drewN | apply Kd.R_drew)); exact Kd.R_mono HO249.out (fun _ hk => hk.2)⟩, ⟨by repeat (first | (with_reducible first | exact HB.out | apply below_alloc | apply pw_below_drewN | apply below_drew1) | exact HB.out)⟩⟩
               case round =>
                clear H'
                try clear c1
                try clear p2
                try clear q2
                try clear hx2
                try clear c4
                try clear c5
                try clear c5b0
                try clear c5b1
                try clear c6
                try clear c6b0
                try clear c6b1
                try clear c9
                try clear c9b0
                try clear c10
                try clear c10b0
                try clear c11
                try clear c11b0
                try clear hx246_0
                try clear p2
                try clear p246
                try clear q246
                obtain ⟨x8_2, x9_2, rfl, HA, HK2, HO_6, HO_8, HB⟩ := hrel
                cases gk with
                | zero => exact absurd HA.out (by simp [testamurref07_Coefficients.l1])
                | succ k2 =>
                 have H := HA.out
                 clear HA
                 simp only [testamurref07_Coefficients.l1] at H
                 by_cases c14 : x9_2 < (l0.length : Int)
                 · rw [if_pos c14] at H
                   have c14b0 : decide (x9_2 < (l0.length : Int)) = true := decide_eq_true c14
                   clear c14
                   by_cases c15 : x9_2 = x7_1
                   · rw [if_pos c15] at H
                     have c15b0 : (x9_2 == x7_1) = true := beq_iff_eq.mpr c15
                     have c15b1 : (x9_2 != x7_1) = false := bne_eq_false_iff_eq.mpr c15
                     clear c15
                     have H' := Aside0.mk H
                     clear H
                     go_wp2
                     go_roundg k2
                     case measure => have := HK1.out; have := HK2.out; omega
                     case rel => exact ⟨(x8_2), (wrap64 (x9_2 + 1)), (by first | rfl | (simp; done) | (simp [*]; done)), H', ⟨by have := HK1.out; have := HK2.out; omega⟩, ⟨by (with_reducible repeat (first | apply Kd.R_alloc | apply Kd.R_drewN | apply Kd.R_drew)); exact HO_6.out⟩, ⟨by (with_reducible repeat (first | apply Kd.R_alloc | apply Kd.R_drewN | apply Kd.R_drew)); exact HO_8.out⟩, ⟨by repeat (first | (with_reducible first | exact HB.out | apply below_alloc | apply pw_below_drewN | apply below_drew1) | exact HB.out)⟩⟩
                   · rw [if_neg c15] at H
                     have c15b0 : (x9_2 == x7_1) = false := beq_eq_false_iff_ne.mpr c15
                     have c15b1 : (x9_2 != x7_1) = true := bne_iff_ne.mpr c15
                     by_cases c16 : 0 ≤ x7_1
                     · rw [if_pos c16] at H
                       have c16b0 : decide (0 ≤ x7_1) = true := decide_eq_true c16
                       clear c16
                       by_cases c17 : x7_1 < (l0.length : Int)
                       · rw [if_pos c17] at H
                         have c17b0 : decide (x7_1 < (l0.length : Int)) = true := decide_eq_true c17
                         clear c17
                         by_cases c18 : 0 ≤ x9_2
                         · rw [if_pos c18] at H
                           have c18b0 : decide (0 ≤ x9_2) = true := decide_eq_true c18
                           clear c18
                           replace H := Option.bind_eq_some_iff.mp H
                           obtain ⟨t252, A190, H⟩ := H
                           replace H : ((testamurref07_Mul.f t252 (rd l0 x9_2)).bind fun t254 => ((testamurref07_times.f x8_2 t254 t252).bind fun t255 => (testamurref07_Coefficients.l1 k2 l0 l1 x6_1 x7_1 t255 (wrap64 (x9_2 + 1))))) = some (r1, r2) := H
                           have A19 := Aside0.mk A190
                           clear A190
                           replace H := Option.bind_eq_some_iff.mp H
                           obtain ⟨t254, A200, H⟩ := H
                           replace H : ((testamurref07_times.f x8_2 t254 t252).bind fun t255 => (testamurref07_Coefficients.l1 k2 l0 l1 x6_1 x7_1 t255 (wrap64 (x9_2 + 1)))) = some (r1, r2) := H
                           have A20 := Aside0.mk A200
                           clear A200
                           replace H := Option.bind_eq_some_iff.mp H
                           obtain ⟨t255, A210, H⟩ := H
                           replace H : (testamurref07_Coefficients.l1 k2 l0 l1 x6_1 x7_1 t255 (wrap64 (x9_2 + 1))) = some (r1, r2) := H
                           have A21 := Aside0.mk A210
                           clear A210
                           have H' := Aside0.mk H
                           clear H
                           try go_wp2
                           have n0_ := Aside0.mk (Kd.R_drew HO_6.out)
                           have n1_ := Aside0.mk (Kd.R_drew HO_8.out)
                           have n2_ := Aside0.mk (below_drew1 HB.out)
                           clear HO_6
                           clear HO_8
                           clear HB
                           have HO_6 := n0_
                           have HO_8 := n1_
                           have HB := n2_
                           clear n0_ n1_ n2_
                           have p250 : 0 ≤ (x7_1 : Int) := of_decide_eq_true (by first | (with_reducible assumption) | assumption)
                           have q250 : x7_1 < (l0.length : Int) := of_decide_eq_true (by first | (with_reducible assumption) | assumption)
                           obtain ⟨ad250, e250, hx250_0⟩ := Kd.at_int HR0.out x7_1 p250 q250
                           have hw250_0 := hx250_0
                           cases e250
                           replace hx250_0 := (HB.out.cell (World.block_lt_of_cell? w _ hx250_0)).trans hx250_0
                           replace p250 := eq_true p250
                           replace q250 := eq_true q250
                           have p251 : 0 ≤ (x9_2 : Int) := of_decide_eq_true (by first | (with_reducible assumption) | assumption)
                           have q251 : x9_2 < (l0.length : Int) := of_decide_eq_true (by first | (with_reducible assumption) | assumption)
                           obtain ⟨ad251, e251, hx251_0⟩ := Kd.at_int HR0.out x9_2 p251 q251
                           have hw251_0 := hx251_0
                           obtain rfl : ad250 = ad251 := (by injection e251)
                           replace hx251_0 := (HB.out.cell (World.block_lt_of_cell? w _ hx251_0)).trans hx251_0
                           replace p251 := eq_true p251
                           replace q251 := eq_true q251
                           refine start_ (n := 11) (S := fun w' => w'.cell? (ad250.add (x7_1).toNat) = some (.int .u8 (rd l0 x7_1)) ∧ w'.cell? (ad250.add (x9_2).toNat) = some (.int .u8 (rd l0 x9_2))) (ds := []) #[false, false, false, false, false, false, false, false, false, false, false] (by kernel_rfl) rfl rfl ⟨((HB.out.cell (World.block_lt_of_cell? w _ hw250_0)).trans hw250_0), ((HB.out.cell (World.block_lt_of_cell? w _ hw251_0)).trans hw251_0)⟩ (fun hHeld => ?_); refine with_tabW testamurref07_Coefficients.tab12 testamurref07_Coefficients.bits12 (fun HT_ HW_ => ?_)
                           generalize wr.drew = w22 at HO_6 HO_8 HB hx250_0 hx251_0 hHeld ⊢
                           refine pure_ (i := 0) (N := some 39) (v := ?_) (a' := ?_) #[true, false, false, false, false, false, false, false, false, false, false] rfl rfl (any_of HT_.out (by kernel_rfl)) (fun _ _ _ h => h) (Or.inl ⟨by rfl, ?_⟩) ?_ ?_
                           rotate_left
                           · intro w'
                             go_simp
                             with_reducible rfl
                           rotate_left
                           · simp only [Act.put, List.setIfInBounds_toArray, List.set_cons_zero, List.set_cons_succ, i64_w, i32_w]
                             rfl
                           refine pure_ (i := 1) (N := some 40) (v := ?_) (a' := ?_) #[true, true, false, false, false, false, false, false, false, false, false] rfl rfl (any_of HT_.out (by kernel_rfl)) (fun _ _ _ h => h) (Or.inl ⟨by rfl, ?_⟩) ?_ ?_
                           rotate_left
                           · intro w'
                             go_simp
                             with_reducible rfl
                           rotate_left
                           · simp only [Act.put, List.setIfInBounds_toArray, List.set_cons_zero, List.set_cons_succ, i64_w, i32_w]
                             rfl
                           refine pure_ (i := 2) (N := some 41) (v := ?_) (a' := ?_) #[true, true, true, false, false, false, false, false, false, false, false] rfl rfl (any_of HT_.out (by kernel_rfl)) (fun _ _ _ h => h) (Or.inl ⟨by rfl, ?_⟩) ?_ ?_
                           rotate_left
                           · intro w'
                             go_simp
                             with_reducible rfl
                           rotate_left
                           · simp only [Act.put, List.setIfInBounds_toArray, List.set_cons_zero, List.set_cons_succ, i64_w, i32_w]
                             rfl
                           refine pure_ (i := 4) (N := some 43) (v := ?_) (a' := ?_) #[true, true, true, false, true, false, false, false, false, false, false] rfl rfl (any_of HT_.out (by kernel_rfl)) (fun _ _ _ h => h) (Or.inl ⟨by rfl, ?_⟩) ?_ ?_
                           rotate_left
                           · intro w'
                             go_simp
                             with_reducible rfl
                           rotate_left
                           · simp only [Act.put, List.setIfInBounds_toArray, List.set_cons_zero, List.set_cons_succ, i64_w, i32_w]
                             rfl
                           refine pure_ (i := 5) (N := some 44) (v := ?_) (a' := ?_) #[true, true, true, false, true, true, false, false, false, false, false] rfl rfl (any_of HT_.out (by kernel_rfl)) (fun _ _ _ h => h) (Or.inl ⟨by rfl, ?_⟩) ?_ ?_
                           rotate_left
                           · intro w'
                             go_simp
                             with_reducible rfl
                           rotate_left
                           · simp only [Act.put, List.setIfInBounds_toArray, List.set_cons_zero, List.set_cons_succ, i64_w, i32_w]
                             rfl
                           refine pure_ (i := 6) (N := some 45) (v := ?_) (a' := ?_) #[true, true, true, false, true, true, true, false, false, false, false] rfl rfl (any_of HT_.out (by kernel_rfl)) (fun _ _ _ h => h) (Or.inl ⟨by rfl, ?_⟩) ?_ ?_
                           rotate_left
                           · intro w'
                             go_simp
                             with_reducible rfl
                           rotate_left
                           · simp only [Act.put, List.setIfInBounds_toArray, List.set_cons_zero, List.set_cons_succ, i64_w, i32_w]
                             rfl
                           refine take_ (i := 3) (N := some 42) (v := ?_) (a' := ?_) #[true, true, true, true, true, true, true, false, false, false, false] rfl rfl (take_ofW HT_.out HW_.out (by kernel_rfl)) (fun _ _ _ h => h) (Or.inl ⟨by rfl, ?_⟩) hHeld ?_ ?_
                           rotate_left
                           · rintro w' ⟨s0, s1⟩
                             go_simp
                             with_reducible rfl
                           rotate_left
                           · simp only [Act.put, List.setIfInBounds_toArray, List.set_cons_zero, List.set_cons_succ, i64_w, i32_w]
                             rfl
                           refine take_ (i := 7) (N := some 46) (v := ?_) (a' := ?_) #[true, true, true, true, true, true, true, true, false, false, false] rfl rfl (take_ofW HT_.out HW_.out (by kernel_rfl)) (fun _ _ _ h => h) (Or.inl ⟨by rfl, ?_⟩) hHeld ?_ ?_
                           rotate_left
                           · rintro w' ⟨s0, s1⟩
                             go_simp
                             with_reducible rfl
                           rotate_left
                           · simp only [Act.put, List.setIfInBounds_toArray, List.set_cons_zero, List.set_cons_succ, i64_w, i32_w]
                             rfl
                           refine pure_ (i := 8) (N := some 47) (v := ?_) (a' := ?_) #[true, true, true, true, true, true, true, true, true, false, false] rfl rfl (any_of HT_.out (by kernel_rfl)) (fun _ _ _ h => h) (Or.inl ⟨by rfl, ?_⟩) ?_ ?_
                           rotate_left
                           · intro w'
                             go_simp
                             with_reducible rfl
                           rotate_left
                           · simp only [Act.put, List.setIfInBounds_toArray, List.set_cons_zero, List.set_cons_succ, i64_w, i32_w]
                             rfl
                           refine one_ (i := 9) (N := some 48) #[true, true, true, true, true, true, true, true, true, true, false] rfl rfl (one_of HT_.out (by kernel_rfl)) (by decide) (fun K hK => ?_)
                           refine goes_ Try.func58 (by kernel_rfl) rfl #[.int .u8 1, .int .u8 (Go.bits .xor .u8 (rd l0 x7_1) (rd l0 x9_2))] (by rfl) rfl rfl (by (try simp only [List.map_toArray, List.map_cons, List.map_nil]); first | done | rfl | (simp only [List.length_drop, List.length_take]; rfl)) ?_
                           with_reducible refine (testamurref07_over.calls 1 (Go.bits .xor .u8 (rd l0 x7_1) (rd l0 x9_2)) t252 _ A19.out).mono ?_
                           rintro e w23 ⟨rfl, hb⟩
                           refine ⟨_, rfl, ?_⟩
                           have n0_ := Aside0.mk (Kd.R_below (by (with_reducible repeat (first | apply Kd.R_alloc | apply Kd.R_drewN | apply Kd.R_drew)); exact HO_6.out) hb)
                           have n1_ := Aside0.mk (Kd.R_below (by (with_reducible repeat (first | apply Kd.R_alloc | apply Kd.R_drewN | apply Kd.R_drew)); exact HO_8.out) hb)
                           have n2_ := Aside0.mk (below_step (by repeat (first | (with_reducible first | exact HB.out | apply below_alloc | apply pw_below_drewN | apply below_drew1) | exact HB.out)) hb)
                           clear HO_6
                           clear HO_8
                           clear HB
                           have HO_6 := n0_
                           have HO_8 := n1_
                           have HB := n2_
                           clear n0_ n1_ n2_
                           (try clear hb)
                           (try clear hb2)
                           (try clear hk)
                           (try clear hi)
                           refine hK.out _ _ ⟨((HB.out.cell (World.block_lt_of_cell? w _ hw250_0)).trans hw250_0), ((HB.out.cell (World.block_lt_of_cell? w _ hw251_0)).trans hw251_0)⟩ (fun hHeld => ?_)
                           clear hK K
                           refine norm_ (a' := ?_) ?_ ?_
                           rotate_left
                           · show Act.put _ (some 48) _ = _
                             simp only [Act.put, List.setIfInBounds_toArray, List.set_cons_zero, List.set_cons_succ, i64_w, i32_w]
                             rfl
                           refine pure_ (i := 10) (N := some 10) (v := ?_) (a' := ?_) #[true, true, true, true, true, true, true, true, true, true, true] rfl rfl (any_of HT_.out (by kernel_rfl)) (fun _ _ _ h => h) (Or.inl ⟨by rfl, ?_⟩) ?_ ?_
                           rotate_left
                           · intro w'
                             go_simp
                             with_reducible rfl
                           rotate_left
                           · simp only [Act.put, List.setIfInBounds_toArray, List.set_cons_zero, List.set_cons_succ, i64_w, i32_w]
                             rfl
                           refine done_ (done_of HT_.out (by kernel_rfl)) ?_
                           have p253 : 0 ≤ (x9_2 : Int) := of_decide_eq_true (by first | (with_reducible assumption) | assumption)
                           have q253 : x9_2 < (l0.length : Int) := of_decide_eq_true (by first | (with_reducible assumption) | assumption)
                           obtain ⟨ad253, e253, hx253_0⟩ := Kd.at_int HR0.out x9_2 p253 q253
                           obtain rfl : ad250 = ad253 := (by injection e253)
                           replace hx253_0 := (HB.out.cell (World.block_lt_of_cell? w _ hx253_0)).trans hx253_0
                           replace p253 := eq_true p253
                           replace q253 := eq_true q253
                           try go_wp2_with (first | ((with_reducible refine gate_callee (f := 19) rfl ?_); refine goesL_ (some 55) rfl rfl Try.func19 (by kernel_rfl) rfl #[.int .u8 t252, .int .u8 (rd l0 x9_2)] rfl (by (try simp only [List.map_toArray, List.map_cons, List.map_nil]); first | done | rfl | (simp only [List.length_drop, List.length_take]; rfl)) ?_; (with_reducible refine (testamurref07_Mul.calls t252 (rd l0 x9_2) t254 _ A20.out).mono ?_); rintro e w24 ⟨rfl, hb⟩; refine ⟨_, rfl, ?_⟩; have n0_ := Aside0.mk (Kd.R_below (by (with_reducible repeat (first | apply Kd.R_alloc | apply Kd.R_drewN | apply Kd.R_drew)); exact HO_6.out) hb); have n1_ := Aside0.mk (Kd.R_below (by (with_reducible repeat (first | apply Kd.R_alloc | apply Kd.R_drewN | apply Kd.R_drew)); exact HO_8.out) hb); have n2_ := Aside0.mk (below_step (by repeat (first | (with_reducible first | exact HB.out | apply below_alloc | apply pw_below_drewN | apply below_drew1) | exact HB.out)) hb); clear HO_6; clear HO_8; clear HB; have HO_6 := n0_; have HO_8 := n1_; have HB := n2_; clear n0_ n1_ n2_; (try clear hb); (try clear hb2); (try clear hk); (try clear hi); obtain ⟨Ao25, co25, eo25⟩ := Kd.R_slice HO_8.out; subst eo25) | ((with_reducible refine gate_callee (f := 59) rfl ?_); refine goesL_ (some 57) rfl rfl Try.func59 (by kernel_rfl) rfl #[.slice Ao25 x8_2.length co25, .int .u8 t254, .int .u8 t252] rfl (by (try simp only [List.map_toArray, List.map_cons, List.map_nil]); first | done | rfl | (simp only [List.length_drop, List.length_take]; rfl)) ?_; (with_reducible refine (testamurref07_times.calls _ _ x8_2 t254 t252 t255 _ ?side1 ?side2 A21.out).mono ?_); (case side1 => repeat (first | exact (Kd.R_reads' HO_8.out).2.2 | (with_reducible refine Kd.C_alloc ?_ _) | (with_reducible refine Kd.C_drewN ?_ _) | (with_reducible refine Kd.C_drew ?_))); (case side2 => exact (Kd.R_reads' HO_8.out).2.1); rintro e w26 ⟨v256, rfl, ho0, hb⟩; refine ⟨_, rfl, ?_⟩; have n0_ := Aside0.mk (Kd.R_elder' (by (with_reducible repeat (first | apply Kd.R_alloc | apply Kd.R_drewN | apply Kd.R_drew)); exact HO_6.out) (Kd.R_base ho0) hb); have n1_ := Aside0.mk (Kd.R_elder' (by (with_reducible repeat (first | apply Kd.R_alloc | apply Kd.R_drewN | apply Kd.R_drew)); exact HO_8.out) (Kd.R_base ho0) hb); have n2_ := Aside0.mk (Kd.R_lower (Kd.R_new' (Kd.R_new' ho0 (Kd.R_lt (by (with_reducible repeat (first | apply Kd.R_alloc | apply Kd.R_drewN | apply Kd.R_drew)); exact HO_6.out))) (Kd.R_lt (by (with_reducible repeat (first | apply Kd.R_alloc | apply Kd.R_drewN | apply Kd.R_drew)); exact HO_8.out))) (below_size (by repeat (first | (with_reducible first | exact HB.out | apply below_alloc | apply pw_below_drewN | apply below_drew1) | exact HB.out)))); have n3_ := Aside0.mk (below_step (by repeat (first | (with_reducible first | exact HB.out | apply below_alloc | apply pw_below_drewN | apply below_drew1) | exact HB.out)) hb); clear HO_6; clear HO_8; clear HB; have HO_6 := n0_; have HO_8 := n1_; have HO257 := n2_; have HB := n3_; clear n0_ n1_ n2_ n3_; (try clear hb); (try clear hb2); (try clear hk); (try clear hi); (try clear ho0)))
                           go_roundg k2
                           case measure => have := HK1.out; have := HK2.out; omega
                           case rel => exact ⟨(t255), (wrap64 (x9_2 + 1)), (by first | rfl | (simp; done) | (simp [*]; done)), H', ⟨by have := HK1.out; have := HK2.out; omega⟩, ⟨by (with_reducible repeat (first | apply Kd.R_alloc | apply Kd.R_drewN | apply Kd.R_drew)); exact Kd.R_mono HO_6.out (fun _ hk => hk.2)⟩, ⟨by (with_reducible repeat (first | apply Kd.R_alloc | apply Kd.R_drewN | apply Kd.R_drew)); exact Kd.R_mono HO257.out (fun _ hk => hk.1.2)⟩, ⟨by repeat (first | (with_reducible first | exact HB.out | apply below_alloc | apply pw_below_drewN | apply below_drew1) | exact HB.out)⟩⟩
                         · rw [if_neg c18] at H
                           exact absurd H (by simp)
                       · rw [if_neg c17] at H
                         exact absurd H (by simp)
                     · rw [if_neg c16] at H
                       exact absurd H (by simp)
                 · rw [if_neg c14] at H
                   have c14b0 : decide (x9_2 < (l0.length : Int)) = false := decide_eq_false c14
                   clear c14
                   have H' := Aside0.mk H
                   clear H
                   go_wp2
                   go_loopg [11] k2 (fun kq v11 w' => ∃ (x6_3 : List Int) (x11_3 : Int), v11 = .int .i64 x11_3 ∧ Aside0 (testamurref07_Coefficients.l2 kq l0 l1 x6_3 x7_1 x8_2 x11_3 = some (r1, r2)) ∧ Aside0 (kq ≤ k2) ∧ Aside0 (Kd.R (Kd.int .u8) 5 w' w.heap.size (fun k_ => some k_ ≠ (u8 : Value).ownBlock) v244 x6_3) ∧ Aside0 (Kd.R (Kd.int .u8) 5 w' w.heap.size (fun k_ => some k_ ≠ (v244 : Value).ownBlock) u8 x8_2) ∧ Aside0 (Below w.heap.size w w'))
                   case atStart => exact ⟨(x6_1), (0), (by first | rfl | (simp; done) | (simp [*]; done)), H', ⟨Nat.le_refl _⟩, ⟨by (with_reducible repeat (first | apply Kd.R_alloc | apply Kd.R_drewN | apply Kd.R_drew)); exact HO_6.out⟩, ⟨by (with_reducible repeat (first | apply Kd.R_alloc | apply Kd.R_drewN | apply Kd.R_drew)); exact HO_8.out⟩, ⟨by repeat (first | (with_reducible first | exact HB.out | apply below_alloc | apply pw_below_drewN | apply below_drew1) | exact HB.out)⟩⟩
                   case round =>
                    clear H'
                    try clear c1
                    try clear p2
                    try clear q2
                    try clear hx2
                    try clear c4
                    try clear c5
                    try clear c5b0
                    try clear c5b1
                    try clear c6
                    try clear c6b0
                    try clear c6b1
                    try clear p6
                    try clear c9
                    try clear c9b0
                    try clear c10
                    try clear c10b0
                    try clear c11
                    try clear c11b0
                    try clear c14
                    try clear c14b0
                    try clear c15
                    try clear c15b0
                    try clear c15b1
                    try clear c16
                    try clear c16b0
                    try clear c17
                    try clear c17b0
                    try clear c18
                    try clear c18b0
                    try clear c19
                    try clear p24
                    try clear q24
                    try clear hx24
                    try clear p25
                    try clear q25
                    try clear hx25
                    try clear hx246_0
                    try clear hx250_0
                    try clear hx251_0
                    try clear hx253_0
                    try clear p2
                    try clear p246
                    try clear p250
                    try clear p251
                    try clear p253
                    try clear q2
                    try clear q246
                    try clear q250
                    try clear q251
                    try clear q253
                    obtain ⟨x6_3, x11_3, rfl, HA, HK3, HO_6, HO_8, HB⟩ := hrel
                    cases gk with
                    | zero => exact absurd HA.out (by simp [testamurref07_Coefficients.l2])
                    | succ k3 =>
                     have H := HA.out
                     clear HA
                     simp only [testamurref07_Coefficients.l2] at H
                     by_cases c27 : x11_3 < (x8_2.length : Int)
                     · rw [if_pos c27] at H
                       have c27b0 : decide (x11_3 < (x8_2.length : Int)) = true := decide_eq_true c27
                       clear c27
                       by_cases c28 : 0 ≤ x11_3
                       · rw [if_pos c28] at H
                         have c28b0 : decide (0 ≤ x11_3) = true := decide_eq_true c28
                         clear c28
                         by_cases c29 : x11_3 < (x6_3.length : Int)
                         · rw [if_pos c29] at H
                           have c29b0 : decide (x11_3 < (x6_3.length : Int)) = true := decide_eq_true c29
                           clear c29
                           obtain ⟨y260, hy260⟩ : ∃ y_ : List Int, y_ = (x6_3.set (x11_3 : Int).toNat (Go.bits .xor .u8 (rd x6_3 x11_3) (rd x8_2 x11_3))) := ⟨_, rfl⟩
                           replace H : (testamurref07_Coefficients.l2 k3 l0 l1 y260 x7_1 x8_2 (wrap64 (x11_3 + 1))) = some (r1, r2) := by first | (rw [hy260]; with_reducible exact H) | (have H2_ := (Option.bind_some _ _).symm.trans H; rw [hy260]; with_reducible exact H2_) | (have H2_ := (Option.bind_some _ _).symm.trans H; with_reducible exact H2_) | with_reducible exact H | (rw [hy260]; exact H) | exact H
                           have Ny260 := Aside0.mk hy260
                           clear hy260
                           have H' := Aside0.mk H
                           clear H
                           obtain ⟨Ao31, co31, eo31⟩ := Kd.R_slice HO_8.out
                           subst eo31
                           try go_wp2
                           have n0_ := Aside0.mk (Kd.R_drew HO_6.out)
                           have n1_ := Aside0.mk (Kd.R_drew HO_8.out)
                           have n2_ := Aside0.mk (below_drew1 HB.out)
                           clear HO_6
                           clear HO_8
                           clear HB
                           have HO_6 := n0_
                           have HO_8 := n1_
                           have HB := n2_
                           clear n0_ n1_ n2_
                           obtain ⟨Ao33, co33, eo33⟩ := Kd.R_slice HO_6.out
                           (first | subst eo33 | (injection eo33 with f1_ f2_ f3_; have f4_ := f1_.symm; have f5_ := f3_.symm; clear f1_ f2_ f3_; subst f4_; subst f5_))
                           have p258 : 0 ≤ (x11_3 : Int) := of_decide_eq_true (by first | (with_reducible assumption) | assumption)
                           have q258 : x11_3 < (x6_3.length : Int) := of_decide_eq_true (by first | (with_reducible assumption) | assumption)
                           obtain ⟨ad258, e258, hx258_0⟩ := Kd.at_int (Kd.R_reads' HO_6.out).2.2 x11_3 p258 q258
                           cases e258
                           replace p258 := eq_true p258
                           replace q258 := eq_true q258
                           have p259 : 0 ≤ (x11_3 : Int) := of_decide_eq_true (by first | (with_reducible assumption) | assumption)
                           have q259 : x11_3 < (x8_2.length : Int) := of_decide_eq_true (by first | (with_reducible assumption) | assumption)
                           obtain ⟨ad259, e259, hx259_0⟩ := Kd.at_int (Kd.R_reads' HO_8.out).2.2 x11_3 p259 q259
                           cases e259
                           replace p259 := eq_true p259
                           replace q259 := eq_true q259
                           have p30 : 0 ≤ (x11_3 : Int) := of_decide_eq_true (by first | (with_reducible assumption) | assumption)
                           have q30 : (x11_3 : Int) < ((x6_3.length : Int) : Int) := of_decide_eq_true (by first | (with_reducible assumption) | assumption)
                           obtain ⟨go30, co30, eo30, gb30, gl30, cl30, HG30⟩ := Kd.R_form HO_6.out (by omega)
                           (first | cases eo30 | (injection eo30 with ea_ en_ ec_; (first | subst ea_ | (injection ea_ with ea_; subst ea_)); subst ec_; clear en_))
                           have GB30 := Aside0.mk gb30
                           have GG30 := Aside0.mk HG30
                           clear gb30 gl30 HG30
                           (first | simp only [add_plain] at hx258_0 | skip)
                           obtain ⟨hx30_0, hf30_0⟩ := Kd.R_celln 0 HO_6.out (x11_3 : Int) p30 q30
                           replace p30 := eq_true p30
                           replace q30 := eq_true q30
                           have HP34 := Kd.R_putn HO_6.out (x11_3 : Int) (Go.bits .xor .u8 (rd x6_3 x11_3) (rd x8_2 x11_3))
                           rw [← Ny260.out] at HP34
                           have HQ34 := Aside0.mk HP34
                           clear HP34
                           refine start_ (n := 13) (S := fun w' => w'.cell? ⟨go30, (x11_3).toNat, none⟩ = some (.int .u8 (rd x6_3 x11_3)) ∧ w'.cell? (ad259.add (x11_3).toNat) = some (.int .u8 (rd x8_2 x11_3))) (ds := [12]) #[false, false, false, false, false, false, false, false, false, false, false, false, false] (by kernel_rfl) rfl rfl ⟨hx258_0, hx259_0⟩ (fun hHeld => ?_); refine with_tabW testamurref07_Coefficients.tab17 testamurref07_Coefficients.bits17 (fun HT_ HW_ => ?_)
                           generalize wr.drew = w32 at HO_6 HO_8 HB GG30 HQ34 hf30_0 hx258_0 hx259_0 hx30_0 hHeld ⊢
                           refine pure_ (i := 0) (N := some 64) (v := ?_) (a' := ?_) #[true, false, false, false, false, false, false, false, false, false, false, false, false] rfl rfl (any_of HT_.out (by kernel_rfl)) (fun _ _ _ h => h) (Or.inl ⟨by rfl, ?_⟩) ?_ ?_
                           rotate_left
                           · intro w'
                             go_simp
                             with_reducible rfl
                           rotate_left
                           · simp only [Act.put, List.setIfInBounds_toArray, List.set_cons_zero, List.set_cons_succ, i64_w, i32_w]
                             rfl
                           refine pure_ (i := 1) (N := some 65) (v := ?_) (a' := ?_) #[true, true, false, false, false, false, false, false, false, false, false, false, false] rfl rfl (any_of HT_.out (by kernel_rfl)) (fun _ _ _ h => h) (Or.inl ⟨by rfl, ?_⟩) ?_ ?_
                           rotate_left
                           · intro w'
                             go_simp
                             with_reducible rfl
                           rotate_left
                           · simp only [Act.put, List.setIfInBounds_toArray, List.set_cons_zero, List.set_cons_succ, i64_w, i32_w]
                             rfl
                           refine pure_ (i := 2) (N := some 66) (v := ?_) (a' := ?_) #[true, true, true, false, false, false, false, false, false, false, false, false, false] rfl rfl (any_of HT_.out (by kernel_rfl)) (fun _ _ _ h => h) (Or.inl ⟨by rfl, ?_⟩) ?_ ?_
                           rotate_left
                           · intro w'
                             go_simp
                             with_reducible rfl
                           rotate_left
                           · simp only [Act.put, List.setIfInBounds_toArray, List.set_cons_zero, List.set_cons_succ, i64_w, i32_w]
                             rfl
                           refine pure_ (i := 3) (N := some 67) (v := ?_) (a' := ?_) #[true, true, true, true, false, false, false, false, false, false, false, false, false] rfl rfl (any_of HT_.out (by kernel_rfl)) (fun _ _ _ h => h) (Or.inl ⟨by rfl, ?_⟩) ?_ ?_
                           rotate_left
                           · intro w'
                             go_simp
                             with_reducible rfl
                           rotate_left
                           · simp only [Act.put, List.setIfInBounds_toArray, List.set_cons_zero, List.set_cons_succ, i64_w, i32_w]
                             rfl
                           refine pure_ (i := 4) (N := some 68) (v := ?_) (a' := ?_) #[true, true, true, true, true, false, false, false, false, false, false, false, false] rfl rfl (any_of HT_.out (by kernel_rfl)) (fun _ _ _ h => h) (Or.inl ⟨by rfl, ?_⟩) ?_ ?_
                           rotate_left
                           · intro w'
                             go_simp
                             with_reducible rfl
                           rotate_left
                           · simp only [Act.put, List.setIfInBounds_toArray, List.set_cons_zero, List.set_cons_succ, i64_w, i32_w]
                             rfl
                           refine pure_ (i := 6) (N := some 70) (v := ?_) (a' := ?_) #[true, true, true, true, true, false, true, false, false, false, false, false, false] rfl rfl (any_of HT_.out (by kernel_rfl)) (fun _ _ _ h => h) (Or.inl ⟨by rfl, ?_⟩) ?_ ?_
                           rotate_left
                           · intro w'
                             go_simp
                             with_reducible rfl
                           rotate_left
                           · simp only [Act.put, List.setIfInBounds_toArray, List.set_cons_zero, List.set_cons_succ, i64_w, i32_w]
                             rfl
                           refine pure_ (i := 7) (N := some 71) (v := ?_) (a' := ?_) #[true, true, true, true, true, false, true, true, false, false, false, false, false] rfl rfl (any_of HT_.out (by kernel_rfl)) (fun _ _ _ h => h) (Or.inl ⟨by rfl, ?_⟩) ?_ ?_
                           rotate_left
                           · intro w'
                             go_simp
                             with_reducible rfl
                           rotate_left
                           · simp only [Act.put, List.setIfInBounds_toArray, List.set_cons_zero, List.set_cons_succ, i64_w, i32_w]
                             rfl
                           refine pure_ (i := 8) (N := some 72) (v := ?_) (a' := ?_) #[true, true, true, true, true, false, true, true, true, false, false, false, false] rfl rfl (any_of HT_.out (by kernel_rfl)) (fun _ _ _ h => h) (Or.inl ⟨by rfl, ?_⟩) ?_ ?_
                           rotate_left
                           · intro w'
                             go_simp
                             with_reducible rfl
                           rotate_left
                           · simp only [Act.put, List.setIfInBounds_toArray, List.set_cons_zero, List.set_cons_succ, i64_w, i32_w]
                             rfl
                           refine take_ (i := 5) (N := some 69) (v := ?_) (a' := ?_) #[true, true, true, true, true, true, true, true, true, false, false, false, false] rfl rfl (take_ofW HT_.out HW_.out (by kernel_rfl)) (fun _ _ _ h => h) (Or.inl ⟨by rfl, ?_⟩) hHeld ?_ ?_
                           rotate_left
                           · rintro w' ⟨s0, s1⟩
                             go_simp
                             with_reducible rfl
                           rotate_left
                           · simp only [Act.put, List.setIfInBounds_toArray, List.set_cons_zero, List.set_cons_succ, i64_w, i32_w]
                             rfl
                           refine take_ (i := 9) (N := some 73) (v := ?_) (a' := ?_) #[true, true, true, true, true, true, true, true, true, true, false, false, false] rfl rfl (take_ofW HT_.out HW_.out (by kernel_rfl)) (fun _ _ _ h => h) (Or.inl ⟨by rfl, ?_⟩) hHeld ?_ ?_
                           rotate_left
                           · rintro w' ⟨s0, s1⟩
                             go_simp
                             with_reducible rfl
                           rotate_left
                           · simp only [Act.put, List.setIfInBounds_toArray, List.set_cons_zero, List.set_cons_succ, i64_w, i32_w]
                             rfl
                           refine pure_ (i := 10) (N := some 74) (v := ?_) (a' := ?_) #[true, true, true, true, true, true, true, true, true, true, true, false, false] rfl rfl (any_of HT_.out (by kernel_rfl)) (fun _ _ _ h => h) (Or.inl ⟨by rfl, ?_⟩) ?_ ?_
                           rotate_left
                           · intro w'
                             go_simp
                             with_reducible rfl
                           rotate_left
                           · simp only [Act.put, List.setIfInBounds_toArray, List.set_cons_zero, List.set_cons_succ, i64_w, i32_w]
                             rfl
                           refine pure_ (i := 11) (N := some 75) (v := ?_) (a' := ?_) #[true, true, true, true, true, true, true, true, true, true, true, true, false] rfl rfl (any_of HT_.out (by kernel_rfl)) (fun _ _ _ h => h) (Or.inl ⟨by rfl, ?_⟩) ?_ ?_
                           rotate_left
                           · intro w'
                             go_simp
                             with_reducible rfl
                           rotate_left
                           · simp only [Act.put, List.setIfInBounds_toArray, List.set_cons_zero, List.set_cons_succ, i64_w, i32_w]
                             rfl
                           refine last_ (i := 12) (N := none) #[true, true, true, true, true, true, true, true, true, true, true, true, true] rfl rfl (one_of HT_.out (by kernel_rfl)) (by decide) (fun K hK => ?_)
                           refine skip_ (w1 := ?_) (by rfl) rfl ?_ ?_
                           rotate_left
                           · go_simp
                             rfl
                           refine hK.out _ _ ?_
                           clear hK K
                           refine done_ (done_of HT_.out (by kernel_rfl)) ?_
                           try go_wp2
                           go_roundg k3
                           case measure => have := HK1.out; have := HK2.out; have := HK3.out; omega
                           case rel => exact ⟨(y260), (wrap64 (x11_3 + 1)), (by first | rfl | (simp; done) | (simp [*]; done)), H', ⟨by have := HK1.out; have := HK2.out; have := HK3.out; omega⟩, ⟨by (with_reducible repeat (first | apply Kd.R_alloc | apply Kd.R_drewN | apply Kd.R_drew)); exact HQ34.out⟩, ⟨by (with_reducible repeat (first | apply Kd.R_alloc | apply Kd.R_drewN | apply Kd.R_drew)); exact Kd.R_mono (Kd.R_far (p := ⟨go30, (x11_3 : Int).toNat, none⟩) (Kd.R_mono HO_8.out (fun k_ hk => (⟨hk, fun e_ => hk (by rw [e_]; rfl)⟩ : _ ∧ k_ ≠ go30))) (fun _ hk => hk.2) (.int .u8 (Go.bits .xor .u8 (rd x6_3 x11_3) (rd x8_2 x11_3)))) (fun _ hk => hk.1)⟩, ⟨by repeat (first | (with_reducible first | exact HB.out | apply below_alloc | apply pw_below_drewN | apply below_drew1 | refine below_set ?_ GB30.out) | exact HB.out)⟩⟩
                         · rw [if_neg c29] at H
                           exact absurd H (by simp)
                       · rw [if_neg c28] at H
                         exact absurd H (by simp)
                     · rw [if_neg c27] at H
                       have c27b0 : decide (x11_3 < (x8_2.length : Int)) = false := decide_eq_false c27
                       clear c27
                       have H' := Aside0.mk H
                       clear H
                       obtain ⟨Ao35, co35, eo35⟩ := Kd.R_slice HO_8.out
                       subst eo35
                       go_wp2
                       go_roundg k3
                       case measure => have := HK1.out; have := HK2.out; have := HK3.out; omega
                       case rel => exact ⟨(x6_3), (wrap64 (x7_1 + 1)), (by first | rfl | (simp; done) | (simp [*]; done)), H', ⟨by have := HK1.out; have := HK2.out; have := HK3.out; omega⟩, ⟨by (with_reducible repeat (first | apply Kd.R_alloc | apply Kd.R_drewN | apply Kd.R_drew)); exact Kd.R_mono HO_6.out (fun _ hk => trivial)⟩, ⟨by repeat (first | (with_reducible first | exact HB.out | apply below_alloc | apply pw_below_drewN | apply below_drew1) | exact HB.out)⟩⟩
             · rw [if_neg c11] at H
               exact absurd H (by simp)
           · rw [if_neg c10] at H
             exact absurd H (by simp)
         · rw [if_neg c9] at H
           have c9b0 : decide (x7_1 < (l0.length : Int)) = false := decide_eq_false c9
           clear c9
           simp only [Option.some.injEq, Prod.mk.injEq] at H
           obtain ⟨rfl, rfl⟩ := H
           go_wp2
           go_ret2
           exact ⟨_, by first | rfl | (simp [errW_none, errW_some] <;> rfl) | (simp [*, errW_none, errW_some] <;> rfl), by (with_reducible repeat (first | apply Kd.R_alloc | apply Kd.R_drewN | apply Kd.R_drew)); exact HO_6.out, by repeat (first | (with_reducible first | exact HB.out | apply below_alloc | apply pw_below_drewN | apply below_drew1) | exact HB.out)⟩
     · rw [if_neg c6] at H
       exact absurd H (by simp)
   · rw [if_neg c5] at H
     exact absurd H (by simp)
 · replace c4 := Bool.eq_false_iff.mpr c4
   subst c4
   have H1 : (some (([] : List Int), 1)) = some (r1, r2) := by rw [if_neg (show ¬ (false = true) by decide)] at H; exact H
   clear H
   have H := H1
   clear H1
   simp only [Option.some.injEq, Prod.mk.injEq] at H
   obtain ⟨rfl, rfl⟩ := H
   go_enter Try.func53, Try.ntmps53
   go_wp2_with (first | ((with_reducible refine gate_callee (f := 57) rfl ?_); refine goesL_ (some 14) rfl rfl Try.func57 (by kernel_rfl) rfl #[.slice A0 l0.length c0, .slice A1 l1.length c1] rfl (by (try simp only [List.map_toArray, List.map_cons, List.map_nil]); first | done | rfl | (simp only [List.length_drop, List.length_take]; rfl)) ?_; (with_reducible refine (testamurref07_Points.calls k _ _ l0 _ _ l1 false _ ?side1 ?side2 ?side3 ?side4 A3.out).mono ?_); (case side1 => repeat (first | exact HR0.out | (with_reducible refine Kd.C_alloc ?_ _) | (with_reducible refine Kd.C_drewN ?_ _) | (with_reducible refine Kd.C_drew ?_))); (case side2 => exact HC0.out); (case side3 => repeat (first | exact HR1.out | (with_reducible refine Kd.C_alloc ?_ _) | (with_reducible refine Kd.C_drewN ?_ _) | (with_reducible refine Kd.C_drew ?_))); (case side4 => exact HC1.out); rintro e w' ⟨rfl, ⟨nd, rfl⟩⟩; refine ⟨_, rfl, ?_⟩))
   go_ret2
   exact ⟨_, by first | rfl | (simp [errW_none, errW_some] <;> rfl) | (simp [*, errW_none, errW_some] <;> rfl), by first | exact Kd.R_nil _ _ _ _ _ | exact Kd.N_nil _ _ _ _ _ | exact Kd.V_nil _ _ _ _ _ | exact Kd.Q_nil _ _ _ _ _ | exact Kd.S_nil _ _ _ _ _, by repeat (first | (with_reducible first | exact HB.out | apply below_alloc | apply pw_below_drewN | apply below_drew1) | exact HB.out)⟩
end Go.Proofs.Ytillfbohengpaaa.PA
end
section
namespace Go.Proofs.Ytillfbohengpaaa.PA
open Go.RowKit Go.Proofs.YtillfbohengpaaaW.PrintWords Go.Proofs.YtillfbohengpaaaW.PrintLast Go.Proofs.YtillfbohengpaaaW.PrintMore
attribute [local go_sem] max2_int min2_int max_two min_two max_three min_three max_four min_four   -- for this text's walks alone
set_option linter.unusedVariables false
set_option linter.unusedSimpArgs false
mutual
def testamurref08_Explain.l0 : Nat → List (S52) → List Int → Int → List Int → Int → Option (List Int × Int)
 | 0, _, _, _, _, _ => none
 | k + 1, x0, x1, x7, x8, x9 => if x9 < (x1.length : Int) then ((testamurref08_points.f k x0 x9).bind fun bt264 => (if bt264.1.length < 140737488355328 then (if 0 ≤ x9 then (if bt264.2.length < 140737488355328 then (testamurref08_Explain.l1 k x0 x1 x7 x8 x9 (bt264.1 ++ [0]) (bt264.2 ++ [rd x1 x9]) 9) else (none)) else (none)) else (none))) else (some (x8, 0))
def testamurref08_Explain.l1 : Nat → List (S52) → List Int → Int → List Int → Int → List Int → List Int → Int → Option (List Int × Int)
 | 0, _, _, _, _, _, _, _, _ => none
 | k + 1, x0, x1, x7, x8, x9, x10, x11, x12 => if (x10.length : Int) < x7 then (if x10.length < 140737488355328 then (if x11.length < 140737488355328 then (testamurref08_Explain.l1 k x0 x1 x7 x8 x9 (x10 ++ [x12]) (x11 ++ [0]) ((x12 + 1) % 256)) else (none)) else (none)) else ((testamurref07_Coefficients.f k x10 x11).bind fun bt283 => (if 1 ≤ (bt283.1.length : Int) then ((some (bt283.1.drop 1 : List Int)).bind fun y287 => (if x8.length + y287.length < 140737488355328 then (testamurref08_Explain.l0 k x0 x1 x7 (x8 ++ y287) (wrap64 (x9 + 1))) else (none))) else (none)))
end
def testamurref08_Explain.f (k : Nat) (l0 : List (S52)) (l1 : List Int) : Option (List Int × Int) := (testamurref08_Check.f k l0).bind fun t261 => (if t261 = 0 then (if 0 < (l0.length : Int) then (if (l0.length : Int) ≥ ((rd_T52 l0 0).f2) then (some (([] : List Int), 80)) else (if (l1.length : Int) = (((rd_T52 l0 0).f4).length : Int) then (testamurref08_Explain.l0 k l0 l1 ((rd_T52 l0 0).f2) ([] : List Int) 0) else (some (([] : List Int), 1)))) else (none)) else (some (([] : List Int), t261)))
set_option maxHeartbeats 8000000 in
set_option maxRecDepth 100000 in
theorem testamurref08_Explain.calls (k : Nat) (A0 : Option Addr) (c0 : Nat) (l0 : List (S52)) (A1 : Option Addr) (c1 : Nat) (l1 : List Int) (r1 : List Int) (r2 : Int) (w : World) (hr0 : Kd.C k52 w A0 l0.length l0) (hc0 : l0.length ≤ c0) (hr1 : Kd.C (Kd.int .u8) w A1 l1.length l1) (hc1 : l1.length ≤ c1) (h : testamurref08_Explain.f k l0 l1 = some (r1, r2)) :
 Calls Try.prog 33 #[.slice A0 l0.length c0, .slice A1 l1.length c1] w fun e w' => ∃ v0_ : Value, e = .returned (.tuple #[v0_, .int .i64 r2]) ∧ Kd.R (Kd.int .u8) 5 w' w.heap.size (fun _ => True) v0_ r1 ∧ Below w.heap.size w w' := by
 have HR0 := Aside0.mk hr0
 have HC0 := Aside0.mk hc0
 clear hr0 hc0
 have HR1 := Aside0.mk hr1
 have HC1 := Aside0.mk hc1
 clear hr1 hc1
 have HB := Aside0.mk (Below.refl w.heap.size w)
 have H : ((testamurref08_Check.f k l0).bind fun t261 => (if t261 = 0 then (if 0 < (l0.length : Int) then (if (l0.length : Int) ≥ ((rd_T52 l0 0).f2) then (some (([] : List Int), 80)) else (if (l1.length : Int) = (((rd_T52 l0 0).f4).length : Int) then (testamurref08_Explain.l0 k l0 l1 ((rd_T52 l0 0).f2) ([] : List Int) 0) else (some (([] : List Int), 1)))) else (none)) else (some (([] : List Int), t261)))) = some (r1, r2) := h
 clear h
 replace H := Option.bind_eq_some_iff.mp H
 obtain ⟨t261, A30, H⟩ := H
 replace H : (if t261 = 0 then (if 0 < (l0.length : Int) then (if (l0.length : Int) ≥ ((rd_T52 l0 0).f2) then (some (([] : List Int), 80)) else (if (l1.length : Int) = (((rd_T52 l0 0).f4).length : Int) then (testamurref08_Explain.l0 k l0 l1 ((rd_T52 l0 0).f2) ([] : List Int) 0) else (some (([] : List Int), 1)))) else (none)) else (some (([] : List Int), t261))) = some (r1, r2) := H
 have A3 := Aside0.mk A30
 clear A30
 by_cases c4 : t261 = 0
 · rw [if_pos c4] at H
   have c4b0 : (t261 == 0) = true := beq_iff_eq.mpr c4
   have c4b1 : (t261 != 0) = false := bne_eq_false_iff_eq.mpr c4
   clear c4
   by_cases c5 : 0 < (l0.length : Int)
   · rw [if_pos c5] at H
     have c5b0 : decide (0 < (l0.length : Int)) = true := decide_eq_true c5
     have c5b1 : decide (0 < l0.length) = true := decide_eq_true (by omega)
     clear c5
     by_cases c6 : (l0.length : Int) ≥ ((rd_T52 l0 0).f2)
     · rw [if_pos c6] at H
       have c6b0 : decide (((rd_T52 l0 0).f2) ≤ (l0.length : Int)) = true := decide_eq_true c6
       clear c6
       simp only [Option.some.injEq, Prod.mk.injEq] at H
       obtain ⟨rfl, rfl⟩ := H
       go_enter Try.func33, Try.ntmps33
       go_wp2_with (first | ((with_reducible refine gate_callee (f := 28) rfl ?_); refine goesL_ (some 16) rfl rfl Try.func28 (by kernel_rfl) rfl #[.slice A0 l0.length c0] rfl (by (try simp only [List.map_toArray, List.map_cons, List.map_nil]); first | done | rfl | (simp only [List.length_drop, List.length_take]; rfl)) ?_; (with_reducible refine (testamurref08_Check.calls k _ _ l0 t261 _ ?side1 ?side2 A3.out).mono ?_); (case side1 => repeat (first | exact HR0.out | (with_reducible refine Kd.C_alloc ?_ _) | (with_reducible refine Kd.C_drewN ?_ _) | (with_reducible refine Kd.C_drew ?_))); (case side2 => exact HC0.out); rintro e w7 ⟨rfl, hb⟩; refine ⟨_, rfl, ?_⟩; have n0_ := Aside0.mk (below_step (by repeat (first | (with_reducible first | exact HB.out | apply below_alloc | apply pw_below_drewN | apply below_drew1) | exact HB.out)) hb); clear HB; have HB := n0_; clear n0_; (try clear hb); (try clear hb2); (try clear hk); (try clear hi); have p262 : 0 ≤ (0 : Int) := (by omega); have q262 : 0 < (l0.length : Int) := of_decide_eq_true (by first | (with_reducible assumption) | assumption); obtain ⟨ad262, A262_4, c262_4, e262, hx262_0, hx262_1, hx262_2, hx262_3, hx262_4, hl262_4, hi262_4⟩ := at_T52 HR0.out 0 p262 q262; cases e262; have qi262 : (0 < l0.length) = True := eq_true (by omega); (try rw [show ((0 : Int)).toNat = 0 from rfl] at hx262_0); (try rw [show 0 * 5 = 0 from rfl] at hx262_0); (try rw [Addr.add_zero'] at hx262_0); (try rw [show ((0 : Int)).toNat = 0 from rfl] at hx262_1); (try rw [show 0 * 5 = 0 from rfl] at hx262_1); (try rw [Addr.add_zero'] at hx262_1); (try rw [show ((0 : Int)).toNat = 0 from rfl] at hx262_2); (try rw [show 0 * 5 = 0 from rfl] at hx262_2); (try rw [Addr.add_zero'] at hx262_2); (try rw [show ((0 : Int)).toNat = 0 from rfl] at hx262_3); (try rw [show 0 * 5 = 0 from rfl] at hx262_3); (try rw [Addr.add_zero'] at hx262_3); (try rw [show ((0 : Int)).toNat = 0 from rfl] at hx262_4); (try rw [show 0 * 5 = 0 from rfl] at hx262_4); (try rw [Addr.add_zero'] at hx262_4); replace hx262_0 := (HB.out.cell (World.block_lt_of_cell? w _ hx262_0)).trans hx262_0; replace hx262_1 := (HB.out.cell (World.block_lt_of_cell? w _ hx262_1)).trans hx262_1; replace hx262_2 := (HB.out.cell (World.block_lt_of_cell? w _ hx262_2)).trans hx262_2; replace hx262_3 := (HB.out.cell (World.block_lt_of_cell? w _ hx262_3)).trans hx262_3; replace hx262_4 := (HB.out.cell (World.block_lt_of_cell? w _ hx262_4)).trans hx262_4; have HR262_4 := Aside0.mk hi262_4; have HC262_4 := Aside0.mk hl262_4; clear hi262_4 hl262_4; replace p262 := eq_true p262; replace q262 := eq_true q262))
       go_ret2
       exact ⟨_, by first | rfl | (simp [errW_none, errW_some] <;> rfl) | (simp [*, errW_none, errW_some] <;> rfl), by first | exact Kd.R_nil _ _ _ _ _ | exact Kd.N_nil _ _ _ _ _ | exact Kd.V_nil _ _ _ _ _ | exact Kd.Q_nil _ _ _ _ _ | exact Kd.S_nil _ _ _ _ _, by repeat (first | (with_reducible first | exact HB.out | apply below_alloc | apply pw_below_drewN | apply below_drew1) | exact HB.out)⟩
     · rw [if_neg c6] at H
       have c6b0 : decide (((rd_T52 l0 0).f2) ≤ (l0.length : Int)) = false := decide_eq_false c6
       clear c6
       by_cases c8 : (l1.length : Int) = (((rd_T52 l0 0).f4).length : Int)
       · rw [if_pos c8] at H
         have c8b0 : ((l1.length : Int) == (((rd_T52 l0 0).f4).length : Int)) = true := beq_iff_eq.mpr c8
         have c8b1 : ((l1.length : Int) != (((rd_T52 l0 0).f4).length : Int)) = false := bne_eq_false_iff_eq.mpr c8
         have c8b2 : (l1.length == ((rd_T52 l0 0).f4).length) = true := by first | simpa using c8 | (simp at c8 ⊢; omega)
         clear c8
         have H' := Aside0.mk H
         clear H
         go_enter Try.func33, Try.ntmps33
         go_wp2_with (first | ((with_reducible refine gate_callee (f := 28) rfl ?_); refine goesL_ (some 16) rfl rfl Try.func28 (by kernel_rfl) rfl #[.slice A0 l0.length c0] rfl (by (try simp only [List.map_toArray, List.map_cons, List.map_nil]); first | done | rfl | (simp only [List.length_drop, List.length_take]; rfl)) ?_; (with_reducible refine (testamurref08_Check.calls k _ _ l0 t261 _ ?side1 ?side2 A3.out).mono ?_); (case side1 => repeat (first | exact HR0.out | (with_reducible refine Kd.C_alloc ?_ _) | (with_reducible refine Kd.C_drewN ?_ _) | (with_reducible refine Kd.C_drew ?_))); (case side2 => exact HC0.out); rintro e w9 ⟨rfl, hb⟩; refine ⟨_, rfl, ?_⟩; have n0_ := Aside0.mk (below_step (by repeat (first | (with_reducible first | exact HB.out | apply below_alloc | apply pw_below_drewN | apply below_drew1) | exact HB.out)) hb); clear HB; have HB := n0_; clear n0_; (try clear hb); (try clear hb2); (try clear hk); (try clear hi); have p262 : 0 ≤ (0 : Int) := (by omega); have q262 : 0 < (l0.length : Int) := of_decide_eq_true (by first | (with_reducible assumption) | assumption); obtain ⟨ad262, A262_4, c262_4, e262, hx262_0, hx262_1, hx262_2, hx262_3, hx262_4, hl262_4, hi262_4⟩ := at_T52 HR0.out 0 p262 q262; cases e262; have qi262 : (0 < l0.length) = True := eq_true (by omega); (try rw [show ((0 : Int)).toNat = 0 from rfl] at hx262_0); (try rw [show 0 * 5 = 0 from rfl] at hx262_0); (try rw [Addr.add_zero'] at hx262_0); (try rw [show ((0 : Int)).toNat = 0 from rfl] at hx262_1); (try rw [show 0 * 5 = 0 from rfl] at hx262_1); (try rw [Addr.add_zero'] at hx262_1); (try rw [show ((0 : Int)).toNat = 0 from rfl] at hx262_2); (try rw [show 0 * 5 = 0 from rfl] at hx262_2); (try rw [Addr.add_zero'] at hx262_2); (try rw [show ((0 : Int)).toNat = 0 from rfl] at hx262_3); (try rw [show 0 * 5 = 0 from rfl] at hx262_3); (try rw [Addr.add_zero'] at hx262_3); (try rw [show ((0 : Int)).toNat = 0 from rfl] at hx262_4); (try rw [show 0 * 5 = 0 from rfl] at hx262_4); (try rw [Addr.add_zero'] at hx262_4); replace hx262_0 := (HB.out.cell (World.block_lt_of_cell? w _ hx262_0)).trans hx262_0; replace hx262_1 := (HB.out.cell (World.block_lt_of_cell? w _ hx262_1)).trans hx262_1; replace hx262_2 := (HB.out.cell (World.block_lt_of_cell? w _ hx262_2)).trans hx262_2; replace hx262_3 := (HB.out.cell (World.block_lt_of_cell? w _ hx262_3)).trans hx262_3; replace hx262_4 := (HB.out.cell (World.block_lt_of_cell? w _ hx262_4)).trans hx262_4; have HR262_4 := Aside0.mk hi262_4; have HC262_4 := Aside0.mk hl262_4; clear hi262_4 hl262_4; replace p262 := eq_true p262; replace q262 := eq_true q262; have p263 : 0 ≤ (0 : Int) := (by omega); have q263 : 0 < (l0.length : Int) := of_decide_eq_true (by first | (with_reducible assumption) | assumption); obtain ⟨ad263, A263_4, c263_4, e263, hx263_0, hx263_1, hx263_2, hx263_3, hx263_4, hl263_4, hi263_4⟩ := at_T52 HR0.out 0 p263 q263; obtain rfl : ad262 = ad263 := (by injection e263); have qi263 : (0 < l0.length) = True := eq_true (by omega); (try rw [show ((0 : Int)).toNat = 0 from rfl] at hx263_0); (try rw [show 0 * 5 = 0 from rfl] at hx263_0); (try rw [Addr.add_zero'] at hx263_0); (try rw [show ((0 : Int)).toNat = 0 from rfl] at hx263_1); (try rw [show 0 * 5 = 0 from rfl] at hx263_1); (try rw [Addr.add_zero'] at hx263_1); (try rw [show ((0 : Int)).toNat = 0 from rfl] at hx263_2); (try rw [show 0 * 5 = 0 from rfl] at hx263_2); (try rw [Addr.add_zero'] at hx263_2); (try rw [show ((0 : Int)).toNat = 0 from rfl] at hx263_3); (try rw [show 0 * 5 = 0 from rfl] at hx263_3); (try rw [Addr.add_zero'] at hx263_3); (try rw [show ((0 : Int)).toNat = 0 from rfl] at hx263_4); (try rw [show 0 * 5 = 0 from rfl] at hx263_4); (try rw [Addr.add_zero'] at hx263_4); replace hx263_0 := (HB.out.cell (World.block_lt_of_cell? w _ hx263_0)).trans hx263_0; replace hx263_1 := (HB.out.cell (World.block_lt_of_cell? w _ hx263_1)).trans hx263_1; replace hx263_2 := (HB.out.cell (World.block_lt_of_cell? w _ hx263_2)).trans hx263_2; replace hx263_3 := (HB.out.cell (World.block_lt_of_cell? w _ hx263_3)).trans hx263_3; replace hx263_4 := (HB.out.cell (World.block_lt_of_cell? w _ hx263_4)).trans hx263_4; have HR263_4 := Aside0.mk hi263_4; have HC263_4 := Aside0.mk hl263_4; clear hi263_4 hl263_4; replace p263 := eq_true p263; replace q263 := eq_true q263; have ea_ := Option.some.inj (hx262_4.symm.trans hx263_4); injection ea_ with ea_ en_ ec_; subst ea_; subst ec_; clear en_))
         go_loopg [8, 9] k (fun kq v8 v9 w' => ∃ (x8_1 : List Int) (x9_1 : Int), v9 = .int .i64 x9_1 ∧ Aside0 (testamurref08_Explain.l0 kq l0 l1 ((rd_T52 l0 0).f2) x8_1 x9_1 = some (r1, r2)) ∧ Aside0 (kq ≤ k) ∧ Aside0 (Kd.R (Kd.int .u8) 5 w' w.heap.size (fun _ => True) v8 x8_1) ∧ Aside0 (Below w.heap.size w w'))
         case atStart => exact ⟨(([] : List Int)), (0), (by first | rfl | (simp; done) | (simp [*]; done)), H', ⟨Nat.le_refl _⟩, ⟨by first | exact Kd.R_nil _ _ _ _ _ | exact Kd.N_nil _ _ _ _ _ | exact Kd.V_nil _ _ _ _ _ | exact Kd.Q_nil _ _ _ _ _ | exact Kd.S_nil _ _ _ _ _⟩, ⟨by repeat (first | (with_reducible first | exact HB.out | apply below_alloc | apply pw_below_drewN | apply below_drew1) | exact HB.out)⟩⟩
         case round =>
          clear H'
          try clear c1
          try clear c2
          try clear p2
          try clear q2
          try clear hx2
          try clear qi2
          try clear c3
          try clear c4
          try clear c4b0
          try clear c4b1
          try clear c5
          try clear c5b0
          try clear c5b1
          try clear c6
          try clear c6b0
          try clear c8
          try clear c8b0
          try clear c8b1
          try clear c8b2
          try clear hx262_0
          try clear hx262_1
          try clear hx262_2
          try clear hx262_3
          try clear hx262_4
          try clear hx263_0
          try clear hx263_1
          try clear hx263_2
          try clear hx263_3
          try clear hx263_4
          try clear p262
          try clear p263
          try clear q262
          try clear q263
          obtain ⟨x8_1, x9_1, rfl, HA, HK1, HO_8, HB⟩ := hrel
          cases gk with
          | zero => exact absurd HA.out (by simp [testamurref08_Explain.l0])
          | succ k1 =>
           have H := HA.out
           clear HA
           simp only [testamurref08_Explain.l0] at H
           by_cases c10 : x9_1 < (l1.length : Int)
           · rw [if_pos c10] at H
             have c10b0 : decide (x9_1 < (l1.length : Int)) = true := decide_eq_true c10
             clear c10
             replace H := Option.bind_eq_some_iff.mp H
             obtain ⟨⟨t264, t265⟩, A110, H⟩ := H
             replace H : (if t264.length < 140737488355328 then (if 0 ≤ x9_1 then (if t265.length < 140737488355328 then (testamurref08_Explain.l1 k1 l0 l1 ((rd_T52 l0 0).f2) x8_1 x9_1 (t264 ++ [0]) (t265 ++ [rd l1 x9_1]) 9) else (none)) else (none)) else (none)) = some (r1, r2) := H
             have A11 := Aside0.mk A110
             clear A110
             by_cases c12 : t264.length < 140737488355328
             · rw [if_pos c12] at H
               have LMc12 := Aside0.mk c12
               clear c12
               obtain ⟨y270, hy270⟩ : ∃ y_ : List Int, y_ = (t264 ++ [0]) := ⟨_, rfl⟩
               replace H : (if 0 ≤ x9_1 then (if t265.length < 140737488355328 then (testamurref08_Explain.l1 k1 l0 l1 ((rd_T52 l0 0).f2) x8_1 x9_1 y270 (t265 ++ [rd l1 x9_1]) 9) else (none)) else (none)) = some (r1, r2) := by first | (rw [hy270]; with_reducible exact H) | (have H2_ := (Option.bind_some _ _).symm.trans H; rw [hy270]; with_reducible exact H2_) | (have H2_ := (Option.bind_some _ _).symm.trans H; with_reducible exact H2_) | with_reducible exact H | (rw [hy270]; exact H) | exact H
               have Ny270 := Aside0.mk hy270
               clear hy270
               by_cases c13 : 0 ≤ x9_1
               · rw [if_pos c13] at H
                 have c13b0 : decide (0 ≤ x9_1) = true := decide_eq_true c13
                 clear c13
                 by_cases c14 : t265.length < 140737488355328
                 · rw [if_pos c14] at H
                   have LMc14 := Aside0.mk c14
                   clear c14
                   obtain ⟨y274, hy274⟩ : ∃ y_ : List Int, y_ = (t265 ++ [rd l1 x9_1]) := ⟨_, rfl⟩
                   replace H : (testamurref08_Explain.l1 k1 l0 l1 ((rd_T52 l0 0).f2) x8_1 x9_1 y270 y274 9) = some (r1, r2) := by first | (rw [hy274]; with_reducible exact H) | (have H2_ := (Option.bind_some _ _).symm.trans H; rw [hy274]; with_reducible exact H2_) | (have H2_ := (Option.bind_some _ _).symm.trans H; with_reducible exact H2_) | with_reducible exact H | (rw [hy274]; exact H) | exact H
                   have Ny274 := Aside0.mk hy274
                   clear hy274
                   have H' := Aside0.mk H
                   clear H
                   go_wp2_with (first | ((with_reducible refine gate_callee (f := 51) rfl ?_); refine goesL_ (some 45) rfl rfl Try.func51 (by kernel_rfl) rfl #[.slice (some ad262) l0.length c0, .int .i64 x9_1] rfl (by (try simp only [List.map_toArray, List.map_cons, List.map_nil]); first | done | rfl | (simp only [List.length_drop, List.length_take]; rfl)) ?_; (with_reducible refine (testamurref08_points.calls k1 _ _ l0 x9_1 t264 t265 _ ?side1 ?side2 A11.out).mono ?_); (case side1 => repeat (first | exact (Kd.C_below HR0.out HB.out) | (with_reducible refine Kd.C_alloc ?_ _) | (with_reducible refine Kd.C_drewN ?_ _) | (with_reducible refine Kd.C_drew ?_))); (case side2 => exact HC0.out); rintro e w15 ⟨v266, v268, rfl, ho0, ho1, hb⟩; refine ⟨_, rfl, ?_⟩; have n0_ := Aside0.mk (Kd.R_mono (Kd.R_told (Kd.R_told (Kd.R_old (by (with_reducible repeat (first | apply Kd.R_alloc | apply Kd.R_drewN | apply Kd.R_drew)); exact HO_8.out) hb) (Kd.R_base ho0)) (Kd.R_base ho1)) (fun _ h_ => h_.1)); have n1_ := Aside0.mk (Kd.R_lower (Kd.R_new' ho0 (Kd.R_lt (by (with_reducible repeat (first | apply Kd.R_alloc | apply Kd.R_drewN | apply Kd.R_drew)); exact HO_8.out))) (below_size (by repeat (first | (with_reducible first | exact HB.out | apply below_alloc | apply pw_below_drewN | apply below_drew1) | exact HB.out)))); have n2_ := Aside0.mk (Kd.R_lower (Kd.R_new' ho1 (Kd.R_lt (by (with_reducible repeat (first | apply Kd.R_alloc | apply Kd.R_drewN | apply Kd.R_drew)); exact HO_8.out))) (below_size (by repeat (first | (with_reducible first | exact HB.out | apply below_alloc | apply pw_below_drewN | apply below_drew1) | exact HB.out)))); have n3_ := Aside0.mk (below_step (by repeat (first | (with_reducible first | exact HB.out | apply below_alloc | apply pw_below_drewN | apply below_drew1) | exact HB.out)) hb); clear HO_8; clear HB; have HO_8 := n0_; have HO267 := n1_; have HO269 := n2_; have HB := n3_; clear n0_ n1_ n2_ n3_; (try clear hb); (try clear hb2); (try clear hk); (try clear hi); (try clear ho0); (try clear ho1)) | ((with_reducible refine gate_builtin (b := .append) (xs := #[.tmp 48, .tmp 49]) rfl ?_); at_builtin; refine Kd.R_append (Kd.int .u8) (w0 := w) w.heap.size rfl (.tmp 48) (.tmp 49) 30 5 (.int .u8 0) 1 rfl Try.underlying30 info5 rfl (by decide) (by omega) v266 t264 0 [.int .u8 0] (fun k_ => some k_ ≠ (u8 : Value).ownBlock ∧ some k_ ≠ (v268 : Value).ownBlock) (fun _ => False) rfl rfl ?aP (fun _ hk => hk.elim) ?aF ?aO ?aB ?aS ?aL ?_; (case aP => exact rfl); (case aB => exact (by repeat (first | (with_reducible first | exact HB.out | apply below_alloc | apply pw_below_drewN | apply below_drew1) | exact HB.out))); (case aF => exact (fun k_ hk => ⟨Kd.fresh' (Kd.R_lt (by (with_reducible repeat (first | apply Kd.R_alloc | apply Kd.R_drewN | apply Kd.R_drew)); exact HO_8.out)) k_ hk, Kd.fresh' (Kd.R_lt (by (with_reducible repeat (first | apply Kd.R_alloc | apply Kd.R_drewN | apply Kd.R_drew)); exact HO269.out)) k_ hk⟩)); (case aO => exact (by (with_reducible repeat (first | apply Kd.R_alloc | apply Kd.R_drewN | apply Kd.R_drew)); exact Kd.R_mono HO267.out (fun _ hk => ⟨hk.2, hk.1⟩))); (case aS => exact (below_size (by repeat (first | (with_reducible first | exact HB.out | apply below_alloc | apply pw_below_drewN | apply below_drew1) | exact HB.out)))); (case aL => have := LMc12.out; omega); intro v271 w16 ho hb hg hat; rw [← Ny270.out] at ho; have n0_ := Aside0.mk (Kd.R_after (ok := (fun k_ => some k_ ≠ (v268 : Value).ownBlock)) (by (with_reducible repeat (first | apply Kd.R_alloc | apply Kd.R_drewN | apply Kd.R_drew)); exact Kd.R_mono HO_8.out (fun _ hk => ⟨hk.2, hk.1.2⟩)) hg hat); have n1_ := Aside0.mk (Kd.R_after (ok := (fun k_ => some k_ ≠ (u8 : Value).ownBlock)) (by (with_reducible repeat (first | apply Kd.R_alloc | apply Kd.R_drewN | apply Kd.R_drew)); exact Kd.R_mono HO269.out (fun _ hk => ⟨hk.2, hk.1⟩)) hg hat); have n2_ := Aside0.mk (hb); have n3_ := Aside0.mk (ho); clear HO_8; clear HO269; clear HB; clear HO267; have HO_8 := n0_; have HO269 := n1_; have HB := n2_; have HO272 := n3_; clear n0_ n1_ n2_ n3_; clear ho hb hg hat; have p273 : 0 ≤ (x9_1 : Int) := of_decide_eq_true (by first | (with_reducible assumption) | assumption); have q273 : x9_1 < (l1.length : Int) := of_decide_eq_true (by first | (with_reducible assumption) | assumption); obtain ⟨ad273, e273, hx273_0⟩ := Kd.at_int HR1.out x9_1 p273 q273; cases e273; replace hx273_0 := (HB.out.cell (World.block_lt_of_cell? w _ hx273_0)).trans hx273_0; replace p273 := eq_true p273; replace q273 := eq_true q273) | ((with_reducible refine gate_builtin (b := .append) (xs := #[.tmp 51, .tmp 56]) rfl ?_); at_builtin; refine Kd.R_append (Kd.int .u8) (w0 := w) w.heap.size rfl (.tmp 51) (.tmp 56) 30 5 (.int .u8 0) 1 rfl Try.underlying30 info5 rfl (by decide) (by omega) v268 t265 (rd l1 x9_1) [.int .u8 (rd l1 x9_1)] (fun k_ => some k_ ≠ (u8 : Value).ownBlock ∧ some k_ ≠ (v271 : Value).ownBlock) (fun _ => False) rfl rfl ?aP (fun _ hk => hk.elim) ?aF ?aO ?aB ?aS ?aL ?_; (case aP => exact rfl); (case aB => exact (by repeat (first | (with_reducible first | exact HB.out | apply below_alloc | apply pw_below_drewN | apply below_drew1) | exact HB.out))); (case aF => exact (fun k_ hk => ⟨Kd.fresh' (Kd.R_lt (by (with_reducible repeat (first | apply Kd.R_alloc | apply Kd.R_drewN | apply Kd.R_drew)); exact HO_8.out)) k_ hk, Kd.fresh' (Kd.R_lt (by (with_reducible repeat (first | apply Kd.R_alloc | apply Kd.R_drewN | apply Kd.R_drew)); exact HO272.out)) k_ hk⟩)); (case aO => exact (by (with_reducible repeat (first | apply Kd.R_alloc | apply Kd.R_drewN | apply Kd.R_drew)); exact HO269.out)); (case aS => exact (below_size (by repeat (first | (with_reducible first | exact HB.out | apply below_alloc | apply pw_below_drewN | apply below_drew1) | exact HB.out)))); (case aL => have := LMc14.out; omega); intro v275 w17 ho hb hg hat; rw [← Ny274.out] at ho; have n0_ := Aside0.mk (Kd.R_after (ok := (fun k_ => some k_ ≠ (v271 : Value).ownBlock)) (by (with_reducible repeat (first | apply Kd.R_alloc | apply Kd.R_drewN | apply Kd.R_drew)); exact Kd.R_mono HO_8.out (fun _ hk => ⟨hk.2, hk.1⟩)) hg hat); have n1_ := Aside0.mk (Kd.R_after (ok := (fun k_ => some k_ ≠ (u8 : Value).ownBlock)) (by (with_reducible repeat (first | apply Kd.R_alloc | apply Kd.R_drewN | apply Kd.R_drew)); exact HO272.out) hg hat); have n2_ := Aside0.mk (hb); have n3_ := Aside0.mk (ho); clear HO_8; clear HO272; clear HB; clear HO269; have HO_8 := n0_; have HO272 := n1_; have HB := n2_; have HO276 := n3_; clear n0_ n1_ n2_ n3_; clear ho hb hg hat))
                   go_loopg [10, 11, 12] k1 (fun kq v10 v11 v12 w' => ∃ (x10_2 : List Int) (x11_2 : List Int) (x12_2 : Int), v12 = .int .u8 x12_2 ∧ Aside0 (testamurref08_Explain.l1 kq l0 l1 ((rd_T52 l0 0).f2) x8_1 x9_1 x10_2 x11_2 x12_2 = some (r1, r2)) ∧ Aside0 (kq ≤ k1) ∧ Aside0 (Kd.R (Kd.int .u8) 5 w' w.heap.size (fun k_ => some k_ ≠ (v10 : Value).ownBlock ∧ some k_ ≠ (v11 : Value).ownBlock) u8 x8_1) ∧ Aside0 (Kd.R (Kd.int .u8) 5 w' w.heap.size (fun k_ => some k_ ≠ (u8 : Value).ownBlock ∧ some k_ ≠ (v11 : Value).ownBlock) v10 x10_2) ∧ Aside0 (Kd.R (Kd.int .u8) 5 w' w.heap.size (fun k_ => some k_ ≠ (u8 : Value).ownBlock ∧ some k_ ≠ (v10 : Value).ownBlock) v11 x11_2) ∧ Aside0 (Below w.heap.size w w'))
                   case atStart => exact ⟨(y270), (y274), (9), (by first | rfl | (simp; done) | (simp [*]; done)), H', ⟨Nat.le_refl _⟩, ⟨by (with_reducible repeat (first | apply Kd.R_alloc | apply Kd.R_drewN | apply Kd.R_drew)); exact HO_8.out⟩, ⟨by (with_reducible repeat (first | apply Kd.R_alloc | apply Kd.R_drewN | apply Kd.R_drew)); exact HO272.out⟩, ⟨by (with_reducible repeat (first | apply Kd.R_alloc | apply Kd.R_drewN | apply Kd.R_drew)); exact HO276.out⟩, ⟨by repeat (first | (with_reducible first | exact HB.out | apply below_alloc | apply pw_below_drewN | apply below_drew1) | exact HB.out)⟩⟩
                   case round =>
                    clear H'
                    try clear c1
                    try clear c2
                    try clear p2
                    try clear q2
                    try clear hx2
                    try clear qi2
                    try clear c3
                    try clear c4
                    try clear c4b0
                    try clear c4b1
                    try clear c5
                    try clear c5b0
                    try clear c5b1
                    try clear c6
                    try clear c6b0
                    try clear c8
                    try clear c8b0
                    try clear c8b1
                    try clear c8b2
                    try clear c10
                    try clear c10b0
                    try clear c12
                    try clear c13
                    try clear c13b0
                    try clear c14
                    try clear hx262_0
                    try clear hx262_1
                    try clear hx262_2
                    try clear hx262_3
                    try clear hx262_4
                    try clear hx263_0
                    try clear hx263_1
                    try clear hx263_2
                    try clear hx263_3
                    try clear hx263_4
                    try clear hx273_0
                    try clear p2
                    try clear p262
                    try clear p263
                    try clear p273
                    try clear q2
                    try clear q262
                    try clear q263
                    try clear q273
                    obtain ⟨x10_2, x11_2, x12_2, rfl, HA, HK2, HO_8, HO_10, HO_11, HB⟩ := hrel
                    cases gk with
                    | zero => exact absurd HA.out (by simp [testamurref08_Explain.l1])
                    | succ k2 =>
                     have H := HA.out
                     clear HA
                     simp only [testamurref08_Explain.l1] at H
                     by_cases c18 : (x10_2.length : Int) < ((rd_T52 l0 0).f2)
                     · rw [if_pos c18] at H
                       have c18b0 : decide ((x10_2.length : Int) < ((rd_T52 l0 0).f2)) = true := decide_eq_true c18
                       clear c18
                       by_cases c19 : x10_2.length < 140737488355328
                       · rw [if_pos c19] at H
                         have LMc19 := Aside0.mk c19
                         clear c19
                         obtain ⟨y277, hy277⟩ : ∃ y_ : List Int, y_ = (x10_2 ++ [x12_2]) := ⟨_, rfl⟩
                         replace H : (if x11_2.length < 140737488355328 then (testamurref08_Explain.l1 k2 l0 l1 ((rd_T52 l0 0).f2) x8_1 x9_1 y277 (x11_2 ++ [0]) ((x12_2 + 1) % 256)) else (none)) = some (r1, r2) := by first | (rw [hy277]; with_reducible exact H) | (have H2_ := (Option.bind_some _ _).symm.trans H; rw [hy277]; with_reducible exact H2_) | (have H2_ := (Option.bind_some _ _).symm.trans H; with_reducible exact H2_) | with_reducible exact H | (rw [hy277]; exact H) | exact H
                         have Ny277 := Aside0.mk hy277
                         clear hy277
                         by_cases c20 : x11_2.length < 140737488355328
                         · rw [if_pos c20] at H
                           have LMc20 := Aside0.mk c20
                           clear c20
                           obtain ⟨y280, hy280⟩ : ∃ y_ : List Int, y_ = (x11_2 ++ [0]) := ⟨_, rfl⟩
                           replace H : (testamurref08_Explain.l1 k2 l0 l1 ((rd_T52 l0 0).f2) x8_1 x9_1 y277 y280 ((x12_2 + 1) % 256)) = some (r1, r2) := by first | (rw [hy280]; with_reducible exact H) | (have H2_ := (Option.bind_some _ _).symm.trans H; rw [hy280]; with_reducible exact H2_) | (have H2_ := (Option.bind_some _ _).symm.trans H; with_reducible exact H2_) | with_reducible exact H | (rw [hy280]; exact H) | exact H
                           have Ny280 := Aside0.mk hy280
                           clear hy280
                           have H' := Aside0.mk H
                           clear H
                           obtain ⟨Ao21, co21, eo21⟩ := Kd.R_slice HO_10.out
                           subst eo21
                           go_wp2_with (first | ((with_reducible refine gate_builtin (b := .append) (xs := #[.tmp 64, .tmp 66]) rfl ?_); at_builtin; refine Kd.R_append (Kd.int .u8) (w0 := w) w.heap.size rfl (.tmp 64) (.tmp 66) 30 5 (.int .u8 0) 1 rfl Try.underlying30 info5 rfl (by decide) (by omega) (.slice Ao21 x10_2.length co21) x10_2 x12_2 [.int .u8 x12_2] (fun k_ => some k_ ≠ (u8 : Value).ownBlock ∧ some k_ ≠ (u11 : Value).ownBlock) (fun _ => False) rfl rfl ?aP (fun _ hk => hk.elim) ?aF ?aO ?aB ?aS ?aL ?_; (case aP => exact rfl); (case aB => exact (by repeat (first | (with_reducible first | exact HB.out | apply below_alloc | apply pw_below_drewN | apply below_drew1) | exact HB.out))); (case aF => exact (fun k_ hk => ⟨Kd.fresh' (Kd.R_lt (by (with_reducible repeat (first | apply Kd.R_alloc | apply Kd.R_drewN | apply Kd.R_drew)); exact HO_8.out)) k_ hk, Kd.fresh' (Kd.R_lt (by (with_reducible repeat (first | apply Kd.R_alloc | apply Kd.R_drewN | apply Kd.R_drew)); exact HO_11.out)) k_ hk⟩)); (case aO => exact (by (with_reducible repeat (first | apply Kd.R_alloc | apply Kd.R_drewN | apply Kd.R_drew)); exact HO_10.out)); (case aS => exact (below_size (by repeat (first | (with_reducible first | exact HB.out | apply below_alloc | apply pw_below_drewN | apply below_drew1) | exact HB.out)))); (case aL => have := LMc19.out; omega); intro v278 w22 ho hb hg hat; rw [← Ny277.out] at ho; have n0_ := Aside0.mk (Kd.R_after (ok := (fun k_ => some k_ ≠ (u11 : Value).ownBlock)) (by (with_reducible repeat (first | apply Kd.R_alloc | apply Kd.R_drewN | apply Kd.R_drew)); exact Kd.R_mono HO_8.out (fun _ hk => ⟨hk.2, hk.1⟩)) hg hat); have n1_ := Aside0.mk (Kd.R_after (ok := (fun k_ => some k_ ≠ (u8 : Value).ownBlock)) (by (with_reducible repeat (first | apply Kd.R_alloc | apply Kd.R_drewN | apply Kd.R_drew)); exact HO_11.out) hg hat); have n2_ := Aside0.mk (hb); have n3_ := Aside0.mk (ho); clear HO_8; clear HO_11; clear HB; clear HO_10; have HO_8 := n0_; have HO_11 := n1_; have HB := n2_; have HO279 := n3_; clear n0_ n1_ n2_ n3_; clear ho hb hg hat) | ((with_reducible refine gate_builtin (b := .append) (xs := #[.tmp 68, .tmp 69]) rfl ?_); at_builtin; refine Kd.R_append (Kd.int .u8) (w0 := w) w.heap.size rfl (.tmp 68) (.tmp 69) 30 5 (.int .u8 0) 1 rfl Try.underlying30 info5 rfl (by decide) (by omega) u11 x11_2 0 [.int .u8 0] (fun k_ => some k_ ≠ (u8 : Value).ownBlock ∧ some k_ ≠ (v278 : Value).ownBlock) (fun _ => False) rfl rfl ?aP (fun _ hk => hk.elim) ?aF ?aO ?aB ?aS ?aL ?_; (case aP => exact rfl); (case aB => exact (by repeat (first | (with_reducible first | exact HB.out | apply below_alloc | apply pw_below_drewN | apply below_drew1) | exact HB.out))); (case aF => exact (fun k_ hk => ⟨Kd.fresh' (Kd.R_lt (by (with_reducible repeat (first | apply Kd.R_alloc | apply Kd.R_drewN | apply Kd.R_drew)); exact HO_8.out)) k_ hk, Kd.fresh' (Kd.R_lt (by (with_reducible repeat (first | apply Kd.R_alloc | apply Kd.R_drewN | apply Kd.R_drew)); exact HO279.out)) k_ hk⟩)); (case aO => exact (by (with_reducible repeat (first | apply Kd.R_alloc | apply Kd.R_drewN | apply Kd.R_drew)); exact HO_11.out)); (case aS => exact (below_size (by repeat (first | (with_reducible first | exact HB.out | apply below_alloc | apply pw_below_drewN | apply below_drew1) | exact HB.out)))); (case aL => have := LMc20.out; omega); intro v281 w23 ho hb hg hat; rw [← Ny280.out] at ho; have n0_ := Aside0.mk (Kd.R_after (ok := (fun k_ => some k_ ≠ (v278 : Value).ownBlock)) (by (with_reducible repeat (first | apply Kd.R_alloc | apply Kd.R_drewN | apply Kd.R_drew)); exact Kd.R_mono HO_8.out (fun _ hk => ⟨hk.2, hk.1⟩)) hg hat); have n1_ := Aside0.mk (Kd.R_after (ok := (fun k_ => some k_ ≠ (u8 : Value).ownBlock)) (by (with_reducible repeat (first | apply Kd.R_alloc | apply Kd.R_drewN | apply Kd.R_drew)); exact HO279.out) hg hat); have n2_ := Aside0.mk (hb); have n3_ := Aside0.mk (ho); clear HO_8; clear HO279; clear HB; clear HO_11; have HO_8 := n0_; have HO279 := n1_; have HB := n2_; have HO282 := n3_; clear n0_ n1_ n2_ n3_; clear ho hb hg hat))
                           go_roundg k2
                           case measure => have := HK1.out; have := HK2.out; omega
                           case rel => exact ⟨(y277), (y280), ((x12_2 + 1) % 256), (by first | rfl | (simp; done) | (simp [*]; done)), H', ⟨by have := HK1.out; have := HK2.out; omega⟩, ⟨by (with_reducible repeat (first | apply Kd.R_alloc | apply Kd.R_drewN | apply Kd.R_drew)); exact HO_8.out⟩, ⟨by (with_reducible repeat (first | apply Kd.R_alloc | apply Kd.R_drewN | apply Kd.R_drew)); exact HO279.out⟩, ⟨by (with_reducible repeat (first | apply Kd.R_alloc | apply Kd.R_drewN | apply Kd.R_drew)); exact HO282.out⟩, ⟨by repeat (first | (with_reducible first | exact HB.out | apply below_alloc | apply pw_below_drewN | apply below_drew1) | exact HB.out)⟩⟩
                         · rw [if_neg c20] at H
                           exact absurd H (by simp)
                       · rw [if_neg c19] at H
                         exact absurd H (by simp)
                     · rw [if_neg c18] at H
                       have c18b0 : decide ((x10_2.length : Int) < ((rd_T52 l0 0).f2)) = false := decide_eq_false c18
                       clear c18
                       replace H := Option.bind_eq_some_iff.mp H
                       obtain ⟨⟨t283, t284⟩, A240, H⟩ := H
                       replace H : (if 1 ≤ (t283.length : Int) then ((some (t283.drop 1 : List Int)).bind fun y287 => (if x8_1.length + y287.length < 140737488355328 then (testamurref08_Explain.l0 k2 l0 l1 ((rd_T52 l0 0).f2) (x8_1 ++ y287) (wrap64 (x9_1 + 1))) else (none))) else (none)) = some (r1, r2) := H
                       have A24 := Aside0.mk A240
                       clear A240
                       by_cases c25 : 1 ≤ (t283.length : Int)
                       · rw [if_pos c25] at H
                         have c25b0 := eq_true c25
                         have c25b1 : decide (1 ≤ (t283.length : Int)) = true := decide_eq_true c25
                         clear c25
                         obtain ⟨y287, hy287⟩ : ∃ y_ : List Int, y_ = (t283.drop 1) := ⟨_, rfl⟩
                         replace H : (if x8_1.length + y287.length < 140737488355328 then (testamurref08_Explain.l0 k2 l0 l1 ((rd_T52 l0 0).f2) (x8_1 ++ y287) (wrap64 (x9_1 + 1))) else (none)) = some (r1, r2) := by first | (rw [hy287]; with_reducible exact H) | (have H2_ := (Option.bind_some _ _).symm.trans H; rw [hy287]; with_reducible exact H2_) | (have H2_ := (Option.bind_some _ _).symm.trans H; with_reducible exact H2_) | with_reducible exact H | (rw [hy287]; exact H) | exact H
                         have Ny287 := Aside0.mk hy287
                         clear hy287
                         by_cases c26 : x8_1.length + y287.length < 140737488355328
                         · rw [if_pos c26] at H
                           have LMc26 := Aside0.mk c26
                           clear c26
                           obtain ⟨y291, hy291⟩ : ∃ y_ : List Int, y_ = (x8_1 ++ y287) := ⟨_, rfl⟩
                           replace H : (testamurref08_Explain.l0 k2 l0 l1 ((rd_T52 l0 0).f2) y291 (wrap64 (x9_1 + 1))) = some (r1, r2) := by first | (rw [hy291]; with_reducible exact H) | (have H2_ := (Option.bind_some _ _).symm.trans H; rw [hy291]; with_reducible exact H2_) | (have H2_ := (Option.bind_some _ _).symm.trans H; with_reducible exact H2_) | with_reducible exact H | (rw [hy291]; exact H) | exact H
                           have Ny291 := Aside0.mk hy291
                           clear hy291
                           have H' := Aside0.mk H
                           clear H
                           obtain ⟨Ao27, co27, eo27⟩ := Kd.R_slice HO_10.out
                           subst eo27
                           obtain ⟨Ao28, co28, eo28⟩ := Kd.R_slice HO_11.out
                           subst eo28
                           go_wp2_with (first | ((with_reducible refine gate_callee (f := 53) rfl ?_); refine goesL_ (some 74) rfl rfl Try.func53 (by kernel_rfl) rfl #[.slice Ao27 x10_2.length co27, .slice Ao28 x11_2.length co28] rfl (by (try simp only [List.map_toArray, List.map_cons, List.map_nil]); first | done | rfl | (simp only [List.length_drop, List.length_take]; rfl)) ?_; (with_reducible refine (testamurref07_Coefficients.calls k2 _ _ x10_2 _ _ x11_2 t283 t284 _ ?side1 ?side2 ?side3 ?side4 A24.out).mono ?_); (case side1 => repeat (first | exact (Kd.R_reads' HO_10.out).2.2 | (with_reducible refine Kd.C_alloc ?_ _) | (with_reducible refine Kd.C_drewN ?_ _) | (with_reducible refine Kd.C_drew ?_))); (case side2 => exact (Kd.R_reads' HO_10.out).2.1); (case side3 => repeat (first | exact (Kd.R_reads' HO_11.out).2.2 | (with_reducible refine Kd.C_alloc ?_ _) | (with_reducible refine Kd.C_drewN ?_ _) | (with_reducible refine Kd.C_drew ?_))); (case side4 => exact (Kd.R_reads' HO_11.out).2.1); rintro e w29 ⟨v285, rfl, ho0, hb⟩; refine ⟨_, rfl, ?_⟩; have n0_ := Aside0.mk (Kd.R_elder' (by (with_reducible repeat (first | apply Kd.R_alloc | apply Kd.R_drewN | apply Kd.R_drew)); exact HO_8.out) (Kd.R_base ho0) hb); have n1_ := Aside0.mk (Kd.R_elder' (by (with_reducible repeat (first | apply Kd.R_alloc | apply Kd.R_drewN | apply Kd.R_drew)); exact HO_10.out) (Kd.R_base ho0) hb); have n2_ := Aside0.mk (Kd.R_elder' (by (with_reducible repeat (first | apply Kd.R_alloc | apply Kd.R_drewN | apply Kd.R_drew)); exact HO_11.out) (Kd.R_base ho0) hb); have n3_ := Aside0.mk (Kd.R_lower (Kd.R_new' (Kd.R_new' (Kd.R_new' ho0 (Kd.R_lt (by (with_reducible repeat (first | apply Kd.R_alloc | apply Kd.R_drewN | apply Kd.R_drew)); exact HO_8.out))) (Kd.R_lt (by (with_reducible repeat (first | apply Kd.R_alloc | apply Kd.R_drewN | apply Kd.R_drew)); exact HO_10.out))) (Kd.R_lt (by (with_reducible repeat (first | apply Kd.R_alloc | apply Kd.R_drewN | apply Kd.R_drew)); exact HO_11.out))) (below_size (by repeat (first | (with_reducible first | exact HB.out | apply below_alloc | apply pw_below_drewN | apply below_drew1) | exact HB.out)))); have n4_ := Aside0.mk (below_step (by repeat (first | (with_reducible first | exact HB.out | apply below_alloc | apply pw_below_drewN | apply below_drew1) | exact HB.out)) hb); clear HO_8; clear HO_10; clear HO_11; clear HB; have HO_8 := n0_; have HO_10 := n1_; have HO_11 := n2_; have HO286 := n3_; have HB := n4_; clear n0_ n1_ n2_ n3_ n4_; (try clear hb); (try clear hb2); (try clear hk); (try clear hi); (try clear ho0); obtain ⟨Ao31, co31, eo31⟩ := Kd.R_slice HO286.out; subst eo31; have q30 : (1 : Int) ≤ ((t283.length : Int) : Int) := of_decide_eq_true (by first | (with_reducible assumption) | assumption); obtain ⟨i030, hi030, _, hsz30, _⟩ := info_parts info5; have hroom30 : t283.length ≤ co31 := (Kd.R_reads' HO286.out).2.1; have hC30 : Kd.C (Kd.int .u8) _ Ao31 t283.length t283 := (Kd.R_reads' HO286.out).2.2; have hcut30 := cut_from (P := Try.prog) 30 5 .i64 Try.underlying30 hi030 1 hsz30 Ao31 t283.length co31 1 (by omega) q30; have hr30 := Kd.C_drop (m := (1 : Int).toNat) (c := co31) hC30 (by omega) hroom30; obtain ⟨A30, hA30⟩ : ∃ A1, A1 = (if co31 = (1 : Int).toNat then Ao31 else (Ao31 : Option Addr).map (·.add ((1 : Int).toNat * 1))) := ⟨_, rfl⟩; obtain ⟨c30, hc30⟩ : ∃ c1, c1 = co31 - (1 : Int).toNat := ⟨_, rfl⟩; have hy30 : y287.length = t283.length - (1 : Int).toNat := (by rw [Ny287.out, List.length_drop] <;> omega); rw [show (t283).drop (1 : Int).toNat = y287 from Ny287.out.symm] at hr30; replace hr30 : Kd.C (Kd.int .u8) _ A30 y287.length y287 := (by rw [hA30]; exact hr30); rw [← hy30, ← hA30, ← hc30] at hcut30; have HR290 := Aside0.mk hr30; have HC290 := Aside0.mk (show y287.length ≤ c30 from by rw [hy30, hc30]; exact Nat.sub_le_sub_right hroom30 _); clear hr30 hC30 hroom30 hi030 hsz30 hc30; have KY30 := Aside0.mk hy30; have KA30 := Aside0.mk hA30; clear hy30 hA30; have KL30 := Aside0.mk (show 1 ≤ t283.length from by omega); replace q30 := eq_true q30) | ((with_reducible refine gate_builtin (b := .append) (xs := #[.tmp 77, .tmp 79]) rfl ?_); at_builtin; refine Kd.R_append_rows (Kd.int .u8) (w0 := w) w.heap.size rfl (.tmp 77) (.tmp 79) 30 5 (.int .u8 0) 1 rfl Try.underlying30 info5 rfl (by decide) (by omega) u8 x8_1 y287 _ _ _ (fun k_ => some k_ ≠ (.slice Ao27 x10_2.length co27 : Value).ownBlock ∧ some k_ ≠ (.slice Ao28 x11_2.length co28 : Value).ownBlock ∧ some k_ ≠ (.slice Ao31 t283.length co31 : Value).ownBlock) (fun _ => False) rfl rfl ?aO ?aR (fun _ _ h => h) (fun _ h => h.elim) ?aF ?aB ?aS ?aL ?_; (case aR => repeat (first | exact (by repeat (first | (with_reducible exact HR290.out) | (with_reducible refine Kd.C_alloc ?_ _) | (with_reducible refine Kd.C_drewN ?_ _) | (with_reducible refine Kd.C_drew ?_) | exact HR290.out)) | (with_reducible refine Kd.C_alloc ?_ _) | (with_reducible refine Kd.C_drewN ?_ _) | (with_reducible refine Kd.C_drew ?_))); (case aB => exact (by repeat (first | (with_reducible first | exact HB.out | apply below_alloc | apply pw_below_drewN | apply below_drew1) | exact HB.out))); (case aF => exact (fun k_ hk => ⟨Kd.fresh' (Kd.R_lt (by (with_reducible repeat (first | apply Kd.R_alloc | apply Kd.R_drewN | apply Kd.R_drew)); exact HO_10.out)) k_ hk, Kd.fresh' (Kd.R_lt (by (with_reducible repeat (first | apply Kd.R_alloc | apply Kd.R_drewN | apply Kd.R_drew)); exact HO_11.out)) k_ hk, Kd.fresh' (Kd.R_lt (by (with_reducible repeat (first | apply Kd.R_alloc | apply Kd.R_drewN | apply Kd.R_drew)); exact HO286.out)) k_ hk⟩)); (case aO => exact (by (with_reducible repeat (first | apply Kd.R_alloc | apply Kd.R_drewN | apply Kd.R_drew)); exact Kd.R_mono HO_8.out (fun _ hk => ⟨hk.1.1, ⟨hk.1.2, hk.2⟩⟩))); (case aS => exact (below_size (by repeat (first | (with_reducible first | exact HB.out | apply below_alloc | apply pw_below_drewN | apply below_drew1) | exact HB.out)))); (case aL => have := LMc26.out; omega); intro v292 w32 ho hb hg hat; rw [← Ny291.out] at ho; have n0_ := Aside0.mk (Kd.R_after (ok := (fun k_ => some k_ ≠ (.slice Ao28 x11_2.length co28 : Value).ownBlock ∧ some k_ ≠ (.slice Ao31 t283.length co31 : Value).ownBlock)) (by (with_reducible repeat (first | apply Kd.R_alloc | apply Kd.R_drewN | apply Kd.R_drew)); exact Kd.R_mono HO_10.out (fun _ hk => ⟨⟨hk.1.2, hk.2⟩, hk.1.1⟩)) hg hat); have n1_ := Aside0.mk (Kd.R_after (ok := (fun k_ => some k_ ≠ (.slice Ao27 x10_2.length co27 : Value).ownBlock ∧ some k_ ≠ (.slice Ao31 t283.length co31 : Value).ownBlock)) (by (with_reducible repeat (first | apply Kd.R_alloc | apply Kd.R_drewN | apply Kd.R_drew)); exact Kd.R_mono HO_11.out (fun _ hk => ⟨⟨hk.1.2, hk.2⟩, hk.1.1⟩)) hg hat); have n2_ := Aside0.mk (Kd.R_after (ok := (fun k_ => some k_ ≠ (.slice Ao27 x10_2.length co27 : Value).ownBlock ∧ some k_ ≠ (.slice Ao28 x11_2.length co28 : Value).ownBlock)) (by (with_reducible repeat (first | apply Kd.R_alloc | apply Kd.R_drewN | apply Kd.R_drew)); exact Kd.R_mono HO286.out (fun _ hk => ⟨⟨hk.1.2, hk.2⟩, hk.1.1.2⟩)) hg hat); have n3_ := Aside0.mk (hb); have n4_ := Aside0.mk ((show Kd.C (Kd.int .u8) w32 A30 y287.length y287 from by rw [Ny287.out, KA30.out]; exact Kd.C_drop (m := 1) (c := co31) ((Kd.R_reads' (Kd.R_after (ok := (fun k_ => some k_ ≠ (.slice Ao27 x10_2.length co27 : Value).ownBlock ∧ some k_ ≠ (.slice Ao28 x11_2.length co28 : Value).ownBlock)) (by (with_reducible repeat (first | apply Kd.R_alloc | apply Kd.R_drewN | apply Kd.R_drew)); exact Kd.R_mono HO286.out (fun _ hk => ⟨⟨hk.1.2, hk.2⟩, hk.1.1.2⟩)) hg hat)).2.2) KL30.out ((Kd.R_reads' (Kd.R_after (ok := (fun k_ => some k_ ≠ (.slice Ao27 x10_2.length co27 : Value).ownBlock ∧ some k_ ≠ (.slice Ao28 x11_2.length co28 : Value).ownBlock)) (by (with_reducible repeat (first | apply Kd.R_alloc | apply Kd.R_drewN | apply Kd.R_drew)); exact Kd.R_mono HO286.out (fun _ hk => ⟨⟨hk.1.2, hk.2⟩, hk.1.1.2⟩)) hg hat)).2.1))); have n5_ := Aside0.mk (ho); clear HO_10; clear HO_11; clear HO286; clear HB; clear HR290; clear HO_8; have HO_10 := n0_; have HO_11 := n1_; have HO286 := n2_; have HB := n3_; have HR290 := n4_; have HO293 := n5_; clear n0_ n1_ n2_ n3_ n4_ n5_; clear ho hb hg hat))
                           go_roundg k2
                           case measure => have := HK1.out; have := HK2.out; omega
                           case rel => exact ⟨(y291), (wrap64 (x9_1 + 1)), (by first | rfl | (simp; done) | (simp [*]; done)), H', ⟨by have := HK1.out; have := HK2.out; omega⟩, ⟨by (with_reducible repeat (first | apply Kd.R_alloc | apply Kd.R_drewN | apply Kd.R_drew)); exact Kd.R_mono HO293.out (fun _ hk => trivial)⟩, ⟨by repeat (first | (with_reducible first | exact HB.out | apply below_alloc | apply pw_below_drewN | apply below_drew1) | exact HB.out)⟩⟩
                         · rw [if_neg c26] at H
                           exact absurd H (by simp)
                       · rw [if_neg c25] at H
                         exact absurd H (by simp)
                 · rw [if_neg c14] at H
                   exact absurd H (by simp)
               · rw [if_neg c13] at H
                 exact absurd H (by simp)
             · rw [if_neg c12] at H
               exact absurd H (by simp)
           · rw [if_neg c10] at H
             have c10b0 : decide (x9_1 < (l1.length : Int)) = false := decide_eq_false c10
             clear c10
             simp only [Option.some.injEq, Prod.mk.injEq] at H
             obtain ⟨rfl, rfl⟩ := H
             go_wp2
             go_ret2
             exact ⟨_, by first | rfl | (simp [errW_none, errW_some] <;> rfl) | (simp [*, errW_none, errW_some] <;> rfl), by (with_reducible repeat (first | apply Kd.R_alloc | apply Kd.R_drewN | apply Kd.R_drew)); exact HO_8.out, by repeat (first | (with_reducible first | exact HB.out | apply below_alloc | apply pw_below_drewN | apply below_drew1) | exact HB.out)⟩
       · rw [if_neg c8] at H
         have c8b0 : ((l1.length : Int) == (((rd_T52 l0 0).f4).length : Int)) = false := beq_eq_false_iff_ne.mpr c8
         have c8b1 : ((l1.length : Int) != (((rd_T52 l0 0).f4).length : Int)) = true := bne_iff_ne.mpr c8
         have c8b2 : (l1.length == ((rd_T52 l0 0).f4).length) = false := by first | simpa using c8 | (simp at c8 ⊢; omega)
         simp only [Option.some.injEq, Prod.mk.injEq] at H
         obtain ⟨rfl, rfl⟩ := H
         go_enter Try.func33, Try.ntmps33
         go_wp2_with (first | ((with_reducible refine gate_callee (f := 28) rfl ?_); refine goesL_ (some 16) rfl rfl Try.func28 (by kernel_rfl) rfl #[.slice A0 l0.length c0] rfl (by (try simp only [List.map_toArray, List.map_cons, List.map_nil]); first | done | rfl | (simp only [List.length_drop, List.length_take]; rfl)) ?_; (with_reducible refine (testamurref08_Check.calls k _ _ l0 t261 _ ?side1 ?side2 A3.out).mono ?_); (case side1 => repeat (first | exact HR0.out | (with_reducible refine Kd.C_alloc ?_ _) | (with_reducible refine Kd.C_drewN ?_ _) | (with_reducible refine Kd.C_drew ?_))); (case side2 => exact HC0.out); rintro e w33 ⟨rfl, hb⟩; refine ⟨_, rfl, ?_⟩; have n0_ := Aside0.mk (below_step (by repeat (first | (with_reducible first | exact HB.out | apply below_alloc | apply pw_below_drewN | apply below_drew1) | exact HB.out)) hb); clear HB; have HB := n0_; clear n0_; (try clear hb); (try clear hb2); (try clear hk); (try clear hi); have p262 : 0 ≤ (0 : Int) := (by omega); have q262 : 0 < (l0.length : Int) := of_decide_eq_true (by first | (with_reducible assumption) | assumption); obtain ⟨ad262, A262_4, c262_4, e262, hx262_0, hx262_1, hx262_2, hx262_3, hx262_4, hl262_4, hi262_4⟩ := at_T52 HR0.out 0 p262 q262; cases e262; have qi262 : (0 < l0.length) = True := eq_true (by omega); (try rw [show ((0 : Int)).toNat = 0 from rfl] at hx262_0); (try rw [show 0 * 5 = 0 from rfl] at hx262_0); (try rw [Addr.add_zero'] at hx262_0); (try rw [show ((0 : Int)).toNat = 0 from rfl] at hx262_1); (try rw [show 0 * 5 = 0 from rfl] at hx262_1); (try rw [Addr.add_zero'] at hx262_1); (try rw [show ((0 : Int)).toNat = 0 from rfl] at hx262_2); (try rw [show 0 * 5 = 0 from rfl] at hx262_2); (try rw [Addr.add_zero'] at hx262_2); (try rw [show ((0 : Int)).toNat = 0 from rfl] at hx262_3); (try rw [show 0 * 5 = 0 from rfl] at hx262_3); (try rw [Addr.add_zero'] at hx262_3); (try rw [show ((0 : Int)).toNat = 0 from rfl] at hx262_4); (try rw [show 0 * 5 = 0 from rfl] at hx262_4); (try rw [Addr.add_zero'] at hx262_4); replace hx262_0 := (HB.out.cell (World.block_lt_of_cell? w _ hx262_0)).trans hx262_0; replace hx262_1 := (HB.out.cell (World.block_lt_of_cell? w _ hx262_1)).trans hx262_1; replace hx262_2 := (HB.out.cell (World.block_lt_of_cell? w _ hx262_2)).trans hx262_2; replace hx262_3 := (HB.out.cell (World.block_lt_of_cell? w _ hx262_3)).trans hx262_3; replace hx262_4 := (HB.out.cell (World.block_lt_of_cell? w _ hx262_4)).trans hx262_4; have HR262_4 := Aside0.mk hi262_4; have HC262_4 := Aside0.mk hl262_4; clear hi262_4 hl262_4; replace p262 := eq_true p262; replace q262 := eq_true q262; have p263 : 0 ≤ (0 : Int) := (by omega); have q263 : 0 < (l0.length : Int) := of_decide_eq_true (by first | (with_reducible assumption) | assumption); obtain ⟨ad263, A263_4, c263_4, e263, hx263_0, hx263_1, hx263_2, hx263_3, hx263_4, hl263_4, hi263_4⟩ := at_T52 HR0.out 0 p263 q263; obtain rfl : ad262 = ad263 := (by injection e263); have qi263 : (0 < l0.length) = True := eq_true (by omega); (try rw [show ((0 : Int)).toNat = 0 from rfl] at hx263_0); (try rw [show 0 * 5 = 0 from rfl] at hx263_0); (try rw [Addr.add_zero'] at hx263_0); (try rw [show ((0 : Int)).toNat = 0 from rfl] at hx263_1); (try rw [show 0 * 5 = 0 from rfl] at hx263_1); (try rw [Addr.add_zero'] at hx263_1); (try rw [show ((0 : Int)).toNat = 0 from rfl] at hx263_2); (try rw [show 0 * 5 = 0 from rfl] at hx263_2); (try rw [Addr.add_zero'] at hx263_2); (try rw [show ((0 : Int)).toNat = 0 from rfl] at hx263_3); (try rw [show 0 * 5 = 0 from rfl] at hx263_3); (try rw [Addr.add_zero'] at hx263_3); (try rw [show ((0 : Int)).toNat = 0 from rfl] at hx263_4); (try rw [show 0 * 5 = 0 from rfl] at hx263_4); (try rw [Addr.add_zero'] at hx263_4); replace hx263_0 := (HB.out.cell (World.block_lt_of_cell? w _ hx263_0)).trans hx263_0; replace hx263_1 := (HB.out.cell (World.block_lt_of_cell? w _ hx263_1)).trans hx263_1; replace hx263_2 := (HB.out.cell (World.block_lt_of_cell? w _ hx263_2)).trans hx263_2; replace hx263_3 := (HB.out.cell (World.block_lt_of_cell? w _ hx263_3)).trans hx263_3; replace hx263_4 := (HB.out.cell (World.block_lt_of_cell? w _ hx263_4)).trans hx263_4; have HR263_4 := Aside0.mk hi263_4; have HC263_4 := Aside0.mk hl263_4; clear hi263_4 hl263_4; replace p263 := eq_true p263; replace q263 := eq_true q263; have ea_ := Option.some.inj (hx262_4.symm.trans hx263_4); injection ea_ with ea_ en_ ec_; subst ea_; subst ec_; clear en_))
         go_ret2
         exact ⟨_, by first | rfl | (simp [errW_none, errW_some] <;> rfl) | (simp [*, errW_none, errW_some] <;> rfl), by first | exact Kd.R_nil _ _ _ _ _ | exact Kd.N_nil _ _ _ _ _ | exact Kd.V_nil _ _ _ _ _ | exact Kd.Q_nil _ _ _ _ _ | exact Kd.S_nil _ _ _ _ _, by repeat (first | (with_reducible first | exact HB.out | apply below_alloc | apply pw_below_drewN | apply below_drew1) | exact HB.out)⟩
   · rw [if_neg c5] at H
     exact absurd H (by simp)
 · rw [if_neg c4] at H
   have c4b0 : (t261 == 0) = false := beq_eq_false_iff_ne.mpr c4
   have c4b1 : (t261 != 0) = true := bne_iff_ne.mpr c4
   simp only [Option.some.injEq, Prod.mk.injEq] at H
   obtain ⟨rfl, rfl⟩ := H
   go_enter Try.func33, Try.ntmps33
   go_wp2_with (first | ((with_reducible refine gate_callee (f := 28) rfl ?_); refine goesL_ (some 16) rfl rfl Try.func28 (by kernel_rfl) rfl #[.slice A0 l0.length c0] rfl (by (try simp only [List.map_toArray, List.map_cons, List.map_nil]); first | done | rfl | (simp only [List.length_drop, List.length_take]; rfl)) ?_; (with_reducible refine (testamurref08_Check.calls k _ _ l0 t261 _ ?side1 ?side2 A3.out).mono ?_); (case side1 => repeat (first | exact HR0.out | (with_reducible refine Kd.C_alloc ?_ _) | (with_reducible refine Kd.C_drewN ?_ _) | (with_reducible refine Kd.C_drew ?_))); (case side2 => exact HC0.out); rintro e w34 ⟨rfl, hb⟩; refine ⟨_, rfl, ?_⟩; have n0_ := Aside0.mk (below_step (by repeat (first | (with_reducible first | exact HB.out | apply below_alloc | apply pw_below_drewN | apply below_drew1) | exact HB.out)) hb); clear HB; have HB := n0_; clear n0_; (try clear hb); (try clear hb2); (try clear hk); (try clear hi)))
   go_ret2
   exact ⟨_, by first | rfl | (simp [errW_none, errW_some] <;> rfl) | (simp [*, errW_none, errW_some] <;> rfl), by first | exact Kd.R_nil _ _ _ _ _ | exact Kd.N_nil _ _ _ _ _ | exact Kd.V_nil _ _ _ _ _ | exact Kd.Q_nil _ _ _ _ _ | exact Kd.S_nil _ _ _ _ _, by repeat (first | (with_reducible first | exact HB.out | apply below_alloc | apply pw_below_drewN | apply below_drew1) | exact HB.out)⟩
end Go.Proofs.Ytillfbohengpaaa.PA
end
section
namespace Go.Proofs.Ytillfbohengpaaa.PA
open Go.RowKit Go.Proofs.YtillfbohengpaaaW.PrintWords Go.Proofs.YtillfbohengpaaaW.PrintLast Go.Proofs.YtillfbohengpaaaW.PrintMore
attribute [local go_sem] max2_int min2_int max_two min_two max_three min_three max_four min_four   -- for this text's walks alone
set_option linter.unusedVariables false
set_option linter.unusedSimpArgs false
def testamurref07_Eval.l0 : Nat → List Int → Int → Int → Int → Int → Option (Int)
 | 0, _, _, _, _, _ => none
 | k + 1, x0, x1, x5, x6, x7 => if x7 < (x0.length : Int) then (if 0 ≤ x7 then ((testamurref07_Mul.f (rd x0 x7) x6).bind fun t103 => ((testamurref07_Mul.f x6 x1).bind fun t104 => (testamurref07_Eval.l0 k x0 x1 (Go.bits .xor .u8 x5 t103) t104 (wrap64 (x7 + 1))))) else (none)) else (some x5)
def testamurref07_Eval.f (k : Nat) (l0 : List Int) (a1 : Int) : Option (Int) := testamurref07_Eval.l0 k l0 a1 0 1 0
set_option maxHeartbeats 8000000 in
set_option maxRecDepth 100000 in
theorem testamurref07_Eval.calls (k : Nat) (A0 : Option Addr) (c0 : Nat) (l0 : List Int) (a1 : Int) (r : Int) (w : World) (hr0 : Kd.C (Kd.int .u8) w A0 l0.length l0) (hc0 : l0.length ≤ c0) (h : testamurref07_Eval.f k l0 a1 = some r) :
 Calls Try.prog 45 #[.slice A0 l0.length c0, .int .u8 a1] w fun e w' => e = .returned (.int .u8 r) ∧ Below w.heap.size w w' := by
 have HR0 := Aside0.mk hr0
 have HC0 := Aside0.mk hc0
 clear hr0 hc0
 have HB := Aside0.mk (Below.refl w.heap.size w)
 have H : (testamurref07_Eval.l0 k l0 a1 0 1 0) = some r := h
 clear h
 have H' := Aside0.mk H
 clear H
 go_enter Try.func45, Try.ntmps45
 go_wp2
 go_loopg [5, 6, 7] k (fun kq v5 v6 v7 w' => ∃ (x5_1 : Int) (x6_1 : Int) (x7_1 : Int), v5 = .int .u8 x5_1 ∧ v6 = .int .u8 x6_1 ∧ v7 = .int .i64 x7_1 ∧ Aside0 (testamurref07_Eval.l0 kq l0 a1 x5_1 x6_1 x7_1 = some r) ∧ Aside0 (kq ≤ k) ∧ Aside0 (Below w.heap.size w w'))
 case atStart => exact ⟨(0), (1), (0), (by first | rfl | (simp; done) | (simp [*]; done)), (by first | rfl | (simp; done) | (simp [*]; done)), (by first | rfl | (simp; done) | (simp [*]; done)), H', ⟨Nat.le_refl _⟩, ⟨by repeat (first | (with_reducible first | exact HB.out | apply below_alloc | apply pw_below_drewN | apply below_drew1) | exact HB.out)⟩⟩
 case round =>
  clear H'
  try clear p2
  obtain ⟨x5_1, x6_1, x7_1, rfl, rfl, rfl, HA, HK1, HB⟩ := hrel
  cases gk with
  | zero => exact absurd HA.out (by simp [testamurref07_Eval.l0])
  | succ k1 =>
   have H := HA.out
   clear HA
   simp only [testamurref07_Eval.l0] at H
   by_cases c3 : x7_1 < (l0.length : Int)
   · rw [if_pos c3] at H
     have c3b0 : decide (x7_1 < (l0.length : Int)) = true := decide_eq_true c3
     clear c3
     by_cases c4 : 0 ≤ x7_1
     · rw [if_pos c4] at H
       have c4b0 : decide (0 ≤ x7_1) = true := decide_eq_true c4
       clear c4
       replace H := Option.bind_eq_some_iff.mp H
       obtain ⟨t103, A50, H⟩ := H
       replace H : ((testamurref07_Mul.f x6_1 a1).bind fun t104 => (testamurref07_Eval.l0 k1 l0 a1 (Go.bits .xor .u8 x5_1 t103) t104 (wrap64 (x7_1 + 1)))) = some r := H
       have A5 := Aside0.mk A50
       clear A50
       replace H := Option.bind_eq_some_iff.mp H
       obtain ⟨t104, A60, H⟩ := H
       replace H : (testamurref07_Eval.l0 k1 l0 a1 (Go.bits .xor .u8 x5_1 t103) t104 (wrap64 (x7_1 + 1))) = some r := H
       have A6 := Aside0.mk A60
       clear A60
       have H' := Aside0.mk H
       clear H
       have p102 : 0 ≤ (x7_1 : Int) := of_decide_eq_true (by first | (with_reducible assumption) | assumption)
       have q102 : x7_1 < (l0.length : Int) := of_decide_eq_true (by first | (with_reducible assumption) | assumption)
       obtain ⟨ad102, e102, hx102_0⟩ := Kd.at_int HR0.out x7_1 p102 q102
       cases e102
       replace hx102_0 := (HB.out.cell (World.block_lt_of_cell? w _ hx102_0)).trans hx102_0
       replace p102 := eq_true p102
       replace q102 := eq_true q102
       go_wp2_with (first | ((with_reducible refine gate_callee (f := 19) rfl ?_); refine goesL_ (some 20) rfl rfl Try.func19 (by kernel_rfl) rfl #[.int .u8 (rd l0 x7_1), .int .u8 x6_1] rfl (by (try simp only [List.map_toArray, List.map_cons, List.map_nil]); first | done | rfl | (simp only [List.length_drop, List.length_take]; rfl)) ?_; (with_reducible refine (testamurref07_Mul.calls (rd l0 x7_1) x6_1 t103 _ A5.out).mono ?_); rintro e w7 ⟨rfl, hb⟩; refine ⟨_, rfl, ?_⟩; have n0_ := Aside0.mk (below_step (by repeat (first | (with_reducible first | exact HB.out | apply below_alloc | apply pw_below_drewN | apply below_drew1) | exact HB.out)) hb); clear HB; have HB := n0_; clear n0_; (try clear hb); (try clear hb2); (try clear hk); (try clear hi)) | ((with_reducible refine gate_callee (f := 19) rfl ?_); refine goesL_ (some 24) rfl rfl Try.func19 (by kernel_rfl) rfl #[.int .u8 x6_1, .int .u8 a1] rfl (by (try simp only [List.map_toArray, List.map_cons, List.map_nil]); first | done | rfl | (simp only [List.length_drop, List.length_take]; rfl)) ?_; (with_reducible refine (testamurref07_Mul.calls x6_1 a1 t104 _ A6.out).mono ?_); rintro e w8 ⟨rfl, hb⟩; refine ⟨_, rfl, ?_⟩; have n0_ := Aside0.mk (below_step (by repeat (first | (with_reducible first | exact HB.out | apply below_alloc | apply pw_below_drewN | apply below_drew1) | exact HB.out)) hb); clear HB; have HB := n0_; clear n0_; (try clear hb); (try clear hb2); (try clear hk); (try clear hi)))
       go_roundg k1
       case measure => have := HK1.out; omega
       case rel => exact ⟨(Go.bits .xor .u8 x5_1 t103), (t104), (wrap64 (x7_1 + 1)), (by first | rfl | (simp; done) | (simp [*]; done)), (by first | rfl | (simp; done) | (simp [*]; done)), (by first | rfl | (simp; done) | (simp [*]; done)), H', ⟨by have := HK1.out; omega⟩, ⟨by repeat (first | (with_reducible first | exact HB.out | apply below_alloc | apply pw_below_drewN | apply below_drew1) | exact HB.out)⟩⟩
     · rw [if_neg c4] at H
       exact absurd H (by simp)
   · rw [if_neg c3] at H
     have c3b0 : decide (x7_1 < (l0.length : Int)) = false := decide_eq_false c3
     clear c3
     obtain rfl := Option.some.inj H
     go_wp2
     go_ret
     exact ⟨by first | rfl | (simp [errW_none, errW_some] <;> rfl) | (simp [*, errW_none, errW_some] <;> rfl), by repeat (first | (with_reducible first | exact HB.out | apply below_alloc | apply pw_below_drewN | apply below_drew1) | exact HB.out)⟩
end Go.Proofs.Ytillfbohengpaaa.PA
end
