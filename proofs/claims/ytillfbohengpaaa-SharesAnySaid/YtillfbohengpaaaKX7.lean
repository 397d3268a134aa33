/-
  Texts of this session and laid words, merged in their order and pruned: Any.
-/
import Derived.Test.YtillfbohengpaaaKX3
import Derived.Test.YtillfbohengpaaaKX6
import Derived.Test.YtillfbohengpaaaKX5
section
set_option linter.unusedVariables false
set_option linter.unusedSimpArgs false
namespace Go.Proofs.Ytillfbohengpaaa
open Go.RowKit Gf Go.Sort Go.Proofs.YtillfbohengpaaaW.PrintWords Go.Proofs.YtillfbohengpaaaW.PrintLast PA
theorem joinE_not {L : List Sh} (h : ¬ L.Pairwise (fun x y => x.ix < y.ix)) : joinE L = 80 := by
  have ha : alikeB L = false := by
    cases hb : alikeB L with
    | false => rfl
    | true =>
      cases L with
      | nil => exact absurd List.Pairwise.nil h
      | cons a r => exact absurd ((alike_spec a r).1 hb).inc h
  unfold joinE
  rw [checkR_not L ha, if_neg (by decide)]
theorem join_dup (L : List Sh) (s : Sh) (hs : s ∈ L) : joinE (L ++ [s]) = 80 := joinE_not fun h => by
  have := (List.pairwise_append.1 h).2.2 s hs s (by simp)
  omega
theorem join_back (s t : Sh) (h : s.ix < t.ix) : joinE [t, s] = 80 := joinE_not fun hp => by
  have := (List.pairwise_cons.1 hp).1 s (by simp)
  omega
theorem chosen_inc {l r : List G} {ep : Int} {m n : Nat} {I : List Nat} (h : Ch I n) : (chosen l r ep m n I).Pairwise (fun x y => x.ix < y.ix) := by
  unfold chosen
  rw [List.pairwise_map]
  exact h.inc.imp (fun {x y} hxy => by show ((x + 1 : Nat) : Int) < ((y + 1 : Nat) : Int); omega)
theorem split_w (w : World) (A0 A3 : Option Addr) (c0 c3 n n2 : Nat) (l r : List G) (ep th mn : Int) (hl : RL gv w A0 n l) (hc0 : n ≤ c0) (hr : RL gv w A3 n2 r) (hc3 : n2 ≤ c3) (hn : n ≤ 100000) (hn2 : n2 ≤ 100000) :
    Calls Try.prog 25 #[.slice A0 n c0, .int .i64 ep, .int .i64 th, .int .i64 mn, .slice A3 n2 c3] w fun e w' => ∃ v, e = .returned (.tuple #[v, .int .i64 (splitV l r ep th mn).2]) ∧ Kd.S k52 52 w' w.heap.size (fun _ => True) v ((splitV l r ep th mn).1.map sI) ∧ Below w.heap.size w w' := by
  obtain rfl := hl.1
  obtain rfl := hr.1
  have h := shares_Split.calls A0 c0 (l.map tI) ep th mn A3 c3 (r.map tI) _ _ w (by rw [List.length_map]; exact C_of_rl hl) (by rwa [List.length_map]) (by rw [List.length_map]; exact C_of_rl hr) (by rwa [List.length_map]) (split_f l r ep th mn hn hn2)
  rw [List.length_map, List.length_map] at h
  exact h
theorem some_w (w : World) (A : Option Addr) (n c base : Nat) (L X : List Sh) (nx : Nat) (a : Int) (ok : Nat → Prop) (hS : Kd.S k52 52 w base ok (.slice A n c) (L.map sI)) (hL : L.length ≤ 8) (hX : pick (bitB a) L = X) (hnx : X.length = nx) :
    Calls Try.prog 36 #[.slice A n c, .int .u8 a] w fun e w' => ∃ A' c', e = .returned (.slice A' nx c') ∧ Kd.N k52 52 w' w.heap.size (fun _ => True) (.slice A' nx c') (X.map sI) ∧ Below w.heap.size w w' := by
  have hV := Kd.S_V (base' := w.heap.size) hS
  obtain ⟨hn, _, _⟩ := Kd.V_at hV
  subst hn
  subst hX
  subst hnx
  refine (testamurlaw08_some.calls (L.length + 1) ok A c (L.map sI) a _ w hV (some_f a L hL _ (by omega))).mono ?_
  rintro e w' ⟨v', rfl, hN, hb⟩
  obtain ⟨A', c', rfl⟩ := Kd.N_slice hN
  rw [List.length_map] at hN
  exact ⟨A', c', by rw [List.length_map], Kd.N_mono hN (fun _ _ => trivial), hb⟩
theorem join_ok {w : World} (A : Option Addr) (n c : Nat) (L : List Sh) (l : List G) (hC : Kd.C k52 w A n (L.map sI)) (hc : n ≤ c) (hE : joinE L = 0) (hR : joinR L = l) :
    Calls Try.prog 30 #[.slice A n c] w fun e w' => ∃ B d, e = .returned (.tuple #[.slice B l.length d, .int .i64 0]) ∧ (Kd.int .u8).C w' B l.length (l.map tI) ∧ Below w.heap.size w w' := by
  refine (join_u A n c L w hC hc).mono ?_
  rintro e w' ⟨⟨v, rfl, hv⟩, hb⟩
  rw [hE]
  rw [hR] at hv
  obtain ⟨B, d, rfl, _, hC2⟩ := Kd.R_reads hv
  rw [List.length_map] at hC2 ⊢
  exact ⟨B, d, rfl, hC2, hb⟩
theorem join_80 {w : World} (A : Option Addr) (n c : Nat) (L : List Sh) (hC : Kd.C k52 w A n (L.map sI)) (hc : n ≤ c) (hE : joinE L = 80) :
    Calls Try.prog 30 #[.slice A n c] w fun e w' => ∃ v, e = .returned (.tuple #[v, .int .i64 80]) ∧ Below w.heap.size w w' := by
  refine (join_u A n c L w hC hc).mono ?_
  rintro e w' ⟨⟨v, rfl, hv⟩, hb⟩
  rw [hE]
  exact ⟨v, rfl, hb⟩
theorem F_cells {w : World} {g n i : Nat} {ok : Nat → Prop} {L : List Sh} (h : Kd.F k52 w ok (some ⟨g, 0, none⟩) n (L.map sI)) (hi : i < L.length) : ∃ A c, Kd.FK k52 w ok (sI L[i]) [.int .i64 L[i].ep, .int .i64 L[i].ix, .int .i64 L[i].th, .int .i64 L[i].mn, .slice A L[i].da.length c] ∧
    w.cell? ⟨g, i * 5, none⟩ = some (.int .i64 L[i].ep) ∧ w.cell? ⟨g, i * 5 + 1, none⟩ = some (.int .i64 L[i].ix) ∧ w.cell? ⟨g, i * 5 + 2, none⟩ = some (.int .i64 L[i].th) ∧ w.cell? ⟨g, i * 5 + 3, none⟩ = some (.int .i64 L[i].mn) ∧ w.cell? ⟨g, i * 5 + 4, none⟩ = some (.slice A L[i].da.length c) := by
  have hn := Kd.F_len h
  rw [List.length_map] at hn
  obtain ⟨ad, cs, hA, _, hK, hc, _⟩ := Kd.F_get h z52 (i : Int) (by omega) (by omega)
  injection hA with hA
  subst hA
  rw [Int.toNat_natCast] at hK hc
  have hg : (L.map sI).getD i z52 = sI L[i] := by rw [List.getD_eq_getElem?_getD, List.getElem?_eq_getElem (by simpa using hi)]; simp
  rw [hg] at hK
  obtain ⟨A, c, rfl, _, _⟩ := k52_openF hK
  have hl : (sI L[i]).f4.length = L[i].da.length := by simp [sI]
  rw [hl] at hK hc
  refine ⟨A, c, hK, ?_, ?_, ?_, ?_, ?_⟩
  · have := hc 0 _ rfl; rwa [add_at, Nat.zero_add] at this
  · have := hc 1 _ rfl; rwa [add_at, Nat.zero_add] at this
  · have := hc 2 _ rfl; rwa [add_at, Nat.zero_add] at this
  · have := hc 3 _ rfl; rwa [add_at, Nat.zero_add] at this
  · have := hc 4 _ rfl; rwa [add_at, Nat.zero_add] at this
theorem reps5 {R : S52 → List Value → Prop} {x : S52} {u0 u1 u2 u3 u4 : Value} (h : R x [u0, u1, u2, u3, u4]) : Reps R 5 [x] [u0, u1, u2, u3, u4] :=
  ⟨rfl, fun j y hy => by
    cases j with
    | zero => obtain rfl : x = y := by simpa using hy
              exact h
    | succ j => simp at hy⟩
theorem reps10 {R : S52 → List Value → Prop} {x y : S52} {u0 u1 u2 u3 u4 v0 v1 v2 v3 v4 : Value} (h : R x [u0, u1, u2, u3, u4]) (h' : R y [v0, v1, v2, v3, v4]) : Reps R 5 [x, y] [u0, u1, u2, u3, u4, v0, v1, v2, v3, v4] :=
  ⟨rfl, fun j z hz => by
    match j, hz with
    | 0, hz => obtain rfl : x = z := by simpa using hz
               exact h
    | 1, hz => obtain rfl : y = z := by simpa using hz
               exact h'
    | j + 2, hz => simp at hz⟩
set_option maxRecDepth 100000 in
set_option maxHeartbeats 4000000 in
theorem any_u (w : World) (A0 A3 : Option Addr) (c0 c3 n n2 : Nat) (l r : List G) (th mn a b : Int) (hl : RL gv w A0 n l) (hc0 : n ≤ c0) (hr : RL gv w A3 n2 r) (hc3 : n2 ≤ c3) :
    Calls Try.prog 13 #[.slice A0 n c0, .int .i64 th, .int .i64 mn, .slice A3 n2 c3, .int .u8 a, .int .u8 b] w fun e w' => e = .returned (.bool true) ∧ Below w.heap.size w w' := by
  have hll := hl.1
  have hrl := hr.1
  have HLL := Lib.hid hll
  have HRL := Lib.hid hrl
  have HL := Lib.hid hl
  have HR := Lib.hid hr
  have HC0 := Lib.hid hc0
  have HC3 := Lib.hid hc3
  clear hl hr hc0 hc3 hll hrl
  go_enter Try.func13, Try.ntmps13
  go_wp2_with fail
  refine (sane_s w).mono ?_
  rintro e w1 ⟨rfl, hb1⟩
  by_cases c1 : (n : Int) > 20
  · have d1 : decide (20 < (n : Int)) = true := decide_eq_true c1
    have d1b : decide (20 < n) = true := decide_eq_true (by omega)
    clear c1
    go_wp2_with fail
    go_ret
    exact ⟨rfl, hb1⟩
  have d1 : decide (20 < (n : Int)) = false := decide_eq_false c1
  have d1b : decide (20 < n) = false := decide_eq_false (by omega)
  by_cases c2 : (n2 : Int) > 200
  · have d2 : decide (200 < (n2 : Int)) = true := decide_eq_true c2
    have d2b : decide (200 < n2) = true := decide_eq_true (by omega)
    clear c1 c2
    go_wp2_with fail
    go_ret
    exact ⟨rfl, hb1⟩
  have d2 : decide (200 < (n2 : Int)) = false := decide_eq_false c2
  have d2b : decide (200 < n2) = false := decide_eq_false (by omega)
  go_wp2_with fail
  clear d1 d1b d2 d2b
  refine (split_w w1 A0 A3 c0 c3 n n2 l r 0 th mn (HL.out.below hb1) HC0.out (HR.out.below hb1) HC3.out (by omega) (by omega)).mono ?_
  rintro e w2 ⟨v2, rfl, hv2, hb2⟩
  have hB2 := bthen hb1 hb2
  by_cases he : splitErr l.length r.length 0 th mn = 0
  case neg =>
    have hV : splitV l r 0 th mn = ([], splitErr l.length r.length 0 th mn) := by unfold splitV; rw [if_neg he]
    rw [hV]
    dsimp only
    generalize splitErr l.length r.length 0 th mn = er at he ⊢
    have d3 : (er == 0) = false := by simp [he]
    have d4 : (er != 0) = true := by simp [he]
    clear hv2 hV c1 c2 hb2 hb1 he
    go_wp2_with fail
    go_ret
    exact ⟨rfl, hB2⟩
  obtain ⟨hl64, m, mm, rfl, rfl, hm, hn8, he0, he1, hrr⟩ := splitErr_zero he
  have hV : splitV l r 0 ((m : Int) + 1) (mm : Int) = (splitTo l r 0 m mm mm, 0) := by
    unfold splitV; rw [if_pos he, show ((m : Int) + 1 - 1).toNat = m by omega, Int.toNat_natCast]
  have hX : ∀ a, ((pick (bitB a) (splitTo l r 0 m mm mm)).Pairwise (fun x y => x.ix < y.ix) ∧ (pick (bitB a) (splitTo l r 0 m mm mm)).length ≤ 8) ∧ (m + 1 ≤ (pick (bitB a) (splitTo l r 0 m mm mm)).length → joinE (pick (bitB a) (splitTo l r 0 m mm mm)) = 0 ∧ joinR (pick (bitB a) (splitTo l r 0 m mm mm)) = l) := by
    intro a
    have hch := ch_filter (bitB a) mm
    rw [pick_split]
    generalize (List.range mm).filter (bitB a) = I at *
    have hcl : (chosen l r 0 m mm I).length = I.length := by simp [chosen]
    refine ⟨⟨chosen_inc hch, by rw [hcl]; have := ch_len hch; omega⟩, fun hlen => ?_⟩
    rw [hcl] at hlen
    exact (chosen_join (r := r) hch (by rintro rfl; simp at hlen) hm hn8 hl64 he0 he1 hrr).1 hlen
  have hL8 : (splitTo l r 0 m mm mm).length ≤ 8 := by simp [splitTo]; exact hn8
  rw [hV] at hv2
  rw [hV]
  dsimp only at hv2
  obtain ⟨X, hXe⟩ : ∃ X, pick (bitB a) (splitTo l r 0 m mm mm) = X := ⟨_, rfl⟩
  obtain ⟨Y, hYe⟩ : ∃ X, pick (bitB b) (splitTo l r 0 m mm mm) = X := ⟨_, rfl⟩
  obtain ⟨nx, hnx⟩ : ∃ nx, X.length = nx := ⟨_, rfl⟩
  obtain ⟨ny, hny⟩ : ∃ ny, Y.length = ny := ⟨_, rfl⟩
  have hXa := hX a
  have hXb := hX b
  rw [hXe, hnx] at hXa
  rw [hYe, hny] at hXb
  obtain ⟨⟨hXi, hX8⟩, hXj⟩ := hXa
  obtain ⟨_, hYj⟩ := hXb
  clear hX hV he hrr he0 he1 hl64 hn8 c1 c2 hb1 hb2
  obtain ⟨L, hL⟩ : ∃ L, splitTo l r 0 m mm mm = L := ⟨_, rfl⟩
  rw [hL] at hv2 hXe hYe hL8
  clear hL
  obtain ⟨AL, cL, rfl⟩ := Kd.S_slice hv2
  have HS2 := Lib.hid hv2
  have HXi := Lib.hid hXi
  have HXj := Lib.hid hXj
  have HYj := Lib.hid hYj
  have HXe := Lib.hid hXe
  have HYe := Lib.hid hYe
  have HNX := Lib.hid hnx
  have HNY := Lib.hid hny
  clear hv2 hXi hXj hYj hXe hYe hnx hny
  generalize (List.map sI L).length = nl at HS2 ⊢
  go_wp2_with fail
  refine (some_w w2 AL _ cL _ L X nx a _ HS2.out hL8 HXe.out HNX.out).mono ?_
  rintro e w3 ⟨AX, cX, rfl, hvx, hb3⟩
  have hB3 := bthen hB2 hb3
  have hS3 := Kd.S_below HS2.out hb3
  have HS3 := Lib.hid hS3
  have HX3 := Lib.hid hvx
  clear hS3 hvx HXe
  go_wp2_with fail
  refine (some_w w3 AL _ cL _ L Y ny b _ HS3.out hL8 HYe.out HNY.out).mono ?_
  rintro e w4 ⟨AY, cY, rfl, hvy, hb4⟩
  have hB4 := bthen hB3 hb4
  have hvx := Kd.N_below HX3.out hb4
  have HX4 := Lib.hid hvx
  have HY4 := Lib.hid hvy
  clear hvx hvy HX3 HS3 HS2 hb3 hb4 hB3 hB2 HYe
  by_cases c3 : nx < m + 1
  · have d3 : decide ((nx : Int) < (m : Int) + 1) = true := decide_eq_true (by omega)
    clear c3 hX8 hL8 hm
    go_wp2_with fail
    go_ret
    exact ⟨rfl, hB4⟩
  have d3 : decide ((nx : Int) < (m : Int) + 1) = false := decide_eq_false (by omega)
  by_cases c4 : ny < m + 1
  · have d4 : decide ((ny : Int) < (m : Int) + 1) = true := decide_eq_true (by omega)
    clear c3 c4 hX8 hL8 hm
    go_wp2_with fail
    go_ret
    exact ⟨rfl, hB4⟩
  have d4 : decide ((ny : Int) < (m : Int) + 1) = false := decide_eq_false (by omega)
  obtain ⟨q, hq⟩ : ∃ q, nx = q + 1 := ⟨nx - 1, by omega⟩
  obtain ⟨x1, x2⟩ := HXj.out (by omega)
  obtain ⟨y1, y2⟩ := HYj.out (by omega)
  have hq8 : q ≤ 7 := by omega
  have HX1 := Lib.hid x1
  have HX2 := Lib.hid x2
  have HY1 := Lib.hid y1
  have HY2 := Lib.hid y2
  have hXn : ∃ g, AX = some ⟨g, 0, none⟩ := by
    obtain ⟨g, cap, he, _⟩ := Kd.N_form HX4.out (by rw [List.length_map, HNX.out]; omega)
    injection he with he
    exact ⟨g, he⟩
  obtain ⟨gX, rfl⟩ := hXn
  have HQ := Lib.hid hq
  have HX8 := Lib.hid hX8
  clear x1 x2 y1 y2 c3 c4 hm hX8 hL8 hq hq8
  go_wp2_with fail
  clear d3 d4
  obtain ⟨hx0, hx1, hx2⟩ := Kd.N_reads' HX4.out
  rw [← hx0] at hx2
  clear hx0
  refine (join_ok (w := w4) (some ⟨gX, 0, none⟩) nx cX X l hx2 hx1 HX1.out HX2.out).mono ?_
  rintro e w5 ⟨As, cs, rfl, hs, hb5⟩
  have hB5 := bthen hB4 hb5
  have HS5 := Lib.hid hs
  obtain ⟨hy0, hy1, hy2⟩ := Kd.N_reads' (Kd.N_below HY4.out hb5)
  rw [← hy0] at hy2
  have HYc := Lib.hid hy1
  have HYr := Lib.hid hy2
  have hvx := Kd.N_below HX4.out hb5
  have HX5 := Lib.hid hvx
  clear hx1 hx2 hs hy0 hy1 hy2 hvx HX4 HY4 hB4
  go_wp2_with fail
  refine (join_ok (w := w5) AY ny cY Y l HYr.out HYc.out HY1.out HY2.out).mono ?_
  rintro e w6 ⟨At, ct, rfl, ht, hb6⟩
  have hB6 := bthen hB5 hb6
  have hF6 := Kd.F_bound (Kd.N_F (Kd.N_below HX5.out hb6))
  have HS6 := Lib.hid (Kd.C_below HS5.out hb6)
  have HT6 := Lib.hid ht
  clear ht hb5 hb6 hB5 HS5 HX5 HYr HY1 HY2 HYj HXj HL HR
  go_wp2_with fail
  have hlt8 : nx ≤ 8 := HX8.out
  have hq := HQ.out
  have hF := hF6
  obtain ⟨Ad, cd, hFK, e0, e1, e2, e3, e4⟩ := F_cells hF6 (i := q) (by rw [HNX.out]; omega)
  obtain ⟨s, hs⟩ : ∃ s, X[q]'(by rw [HNX.out]; omega) = s := ⟨_, rfl⟩
  rw [hs] at hFK e0 e1 e2 e3 e4
  have HD := Lib.hid (join_dup X s (hs ▸ List.getElem_mem _))
  have HF := Lib.hid hF
  have HFK := Lib.hid hFK
  have HSc : Hid (∀ w', Below w6.heap.size w6 w' → w'.cell? ⟨gX, q * 5, none⟩ = some (.int .i64 s.ep) ∧ w'.cell? ⟨gX, q * 5 + 1, none⟩ = some (.int .i64 s.ix) ∧ w'.cell? ⟨gX, q * 5 + 2, none⟩ = some (.int .i64 s.th) ∧ w'.cell? ⟨gX, q * 5 + 3, none⟩ = some (.int .i64 s.mn) ∧ w'.cell? ⟨gX, q * 5 + 4, none⟩ = some (.slice Ad s.da.length cd)) :=
    fun w' hb => ⟨pw_cell_below hb e0, pw_cell_below hb e1, pw_cell_below hb e2, pw_cell_below hb e3, pw_cell_below hb e4⟩
  have hbd : Below w6.heap.size w6 w6.drew := below_drew (Below.refl _ _)
  have hq1 : ((nx : Int) - 1) = (q : Int) := by omega
  have hqw : IntKind.i64.wrap (q : Int) = (q : Int) := IntWalk.i64_in _ (by omega)
  have hqn : (q : Int) < (nx : Int) := by omega
  have hq0 : (0 : Int) ≤ (q : Int) := by omega
  clear hs hF hFK e0 e1 e2 e3 e4 hF6 hq
  refine start_ (n := 17) (S := fun w' => w'.cell? ⟨gX, q * 5, none⟩ = some (.int .i64 s.ep) ∧ w'.cell? ⟨gX, q * 5 + 1, none⟩ = some (.int .i64 s.ix) ∧ w'.cell? ⟨gX, q * 5 + 2, none⟩ = some (.int .i64 s.th) ∧ w'.cell? ⟨gX, q * 5 + 3, none⟩ = some (.int .i64 s.mn) ∧ w'.cell? ⟨gX, q * 5 + 4, none⟩ = some (.slice Ad s.da.length cd)) (ds := []) #[false, false, false, false, false, false, false, false, false, false, false, false, false, false, false, false, false] (by kernel_rfl) rfl rfl (HSc.out _ hbd) (fun hHeld => ?_)
  generalize w6.drew = wd at *
  refine pure_ (i := 1) (N := some 73) (v := ?_) (a' := ?_) #[false, true, false, false, false, false, false, false, false, false, false, false, false, false, false, false, false] rfl rfl (by kernel_rfl) (fun _ _ _ h => h) (Or.inl ⟨by rfl, ?_⟩) ?_ ?_
  rotate_left
  · intro w'
    go_simp
    with_reducible rfl
  rotate_left
  · simp only [Act.put, List.setIfInBounds_toArray, List.set_cons_zero, List.set_cons_succ]
    rfl
  refine pure_ (i := 3) (N := some 75) (v := ?_) (a' := ?_) #[false, true, false, true, false, false, false, false, false, false, false, false, false, false, false, false, false] rfl rfl (by kernel_rfl) (fun _ _ _ h => h) (Or.inl ⟨by rfl, ?_⟩) ?_ ?_
  rotate_left
  · intro w'
    go_simp
    with_reducible rfl
  rotate_left
  · simp only [Act.put, List.setIfInBounds_toArray, List.set_cons_zero, List.set_cons_succ]
    rfl
  refine pure_ (i := 4) (N := some 76) (v := ?_) (a' := ?_) #[false, true, false, true, true, false, false, false, false, false, false, false, false, false, false, false, false] rfl rfl (by kernel_rfl) (fun _ _ _ h => h) (Or.inl ⟨by rfl, ?_⟩) ?_ ?_
  rotate_left
  · intro w'
    go_simp
    with_reducible rfl
  rotate_left
  · simp only [Act.put, List.setIfInBounds_toArray, List.set_cons_zero, List.set_cons_succ]
    rfl
  refine pure_ (i := 5) (N := some 77) (v := ?_) (a' := ?_) #[false, true, false, true, true, true, false, false, false, false, false, false, false, false, false, false, false] rfl rfl (by kernel_rfl) (fun _ _ _ h => h) (Or.inl ⟨by rfl, ?_⟩) ?_ ?_
  rotate_left
  · intro w'
    go_simp
    with_reducible rfl
  rotate_left
  · simp only [Act.put, List.setIfInBounds_toArray, List.set_cons_zero, List.set_cons_succ]
    rfl
  refine pure_ (i := 6) (N := some 78) (v := ?_) (a' := ?_) #[false, true, false, true, true, true, true, false, false, false, false, false, false, false, false, false, false] rfl rfl (by kernel_rfl) (fun _ _ _ h => h) (Or.inl ⟨by rfl, ?_⟩) ?_ ?_
  rotate_left
  · intro w'
    go_simp
    with_reducible rfl
  rotate_left
  · simp only [Act.put, List.setIfInBounds_toArray, List.set_cons_zero, List.set_cons_succ]
    rfl
  refine pure_ (i := 7) (N := some 79) (v := ?_) (a' := ?_) #[false, true, false, true, true, true, true, true, false, false, false, false, false, false, false, false, false] rfl rfl (by kernel_rfl) (fun _ _ _ h => h) (Or.inl ⟨by rfl, ?_⟩) ?_ ?_
  rotate_left
  · intro w'
    go_simp
    with_reducible rfl
  rotate_left
  · simp only [Act.put, List.setIfInBounds_toArray, List.set_cons_zero, List.set_cons_succ]
    rfl
  refine take_ (i := 8) (N := some 80) (v := ?_) (a' := ?_) #[false, true, false, true, true, true, true, true, true, false, false, false, false, false, false, false, false] rfl rfl (by kernel_rfl) (fun _ _ _ h => h) (Or.inl ⟨by rfl, ?_⟩) hHeld ?_ ?_
  rotate_left
  · intro w' hs
    obtain ⟨s0, s1, s2, s3, s4⟩ := hs; go_simp
    with_reducible rfl
  rotate_left
  · simp only [Act.put, List.setIfInBounds_toArray, List.set_cons_zero, List.set_cons_succ]
    rfl
  refine join_ (σ := Value × Value × (Option Addr × Nat)) 7 #[true, true, true, true, true, true, true, true, true, true, false, false, false, false, false, false, false] (fun s => [(72, s.1), (74, s.2.1), (81, .slice s.2.2.1 1 s.2.2.2)])
    (fun t W1 => Kd.N k52 52 W1 w6.heap.size (fun _ => True) t.2.1 (X.map sI) ∧ Kd.F k52 W1 (fun k => True ∧ some k ≠ t.2.1.ownBlock) t.2.2.1 1 [sI s] ∧ Below w6.heap.size w6 W1) ?_ (fun hJ => ?_)
  · rintro ⟨vE, v74, ⟨A81, c81⟩⟩ W1 ⟨hN, hF, hB⟩
    dsimp only at hN hF hB ⊢
    refine norm_ (a' := ?_) ?_ ?_
    rotate_left
    · simp only [putAll, List.foldl, Act.put, List.setIfInBounds_toArray, List.set_cons_zero, List.set_cons_succ]
      rfl
    refine one_ (i := 10) (N := some 82) #[true, true, true, true, true, true, true, true, true, true, true, false, false, false, false, false, false] rfl rfl (by kernel_rfl) (by decide) (fun K hK => ?_)
    refine Kd.N_append_rows_step k52 (w0 := w6) w6.heap.size (by rfl) (.tmp 74) (.tmp 81) 37 52 (.agg #[(.int .i64 0), (.int .i64 0), (.int .i64 0), (.int .i64 0), (.slice none 0 0)]) 56 rfl slice_sh Try.info52 rfl (by decide) (by omega) v74 (X.map sI) [sI s] A81 1 c81 (fun _ => True) (fun k => True ∧ some k ≠ v74.ownBlock) rfl rfl hN hF (fun k hk => ⟨trivial, hk.2⟩) (fun _ _ => trivial) hB hB.size (by rw [List.length_map, HNX.out]; omega) ?_
    intro v82 W2 hN2 hB2 _ _
    refine hK.out _ _ (HSc.out _ hB2) (fun _ => ?_)
    clear hK K
    obtain ⟨A82, c82, rfl⟩ := Kd.N_slice hN2
    have hr82 := Kd.N_reads' hN2
    generalize (List.map sI X ++ [sI s]).length = n82 at hN2 hr82 ⊢
    refine norm_ (a' := ?_) ?_ ?_
    rotate_left
    · show Act.put _ (some 82) _ = _
      simp only [Act.put, List.setIfInBounds_toArray, List.set_cons_zero, List.set_cons_succ]
      rfl
    refine one_ (i := 11) (N := some 83) #[true, true, true, true, true, true, true, true, true, true, true, true, false, false, false, false, false] rfl rfl (by kernel_rfl) (by decide) (fun K hK => ?_)
    refine goes_ Try.func30 (by kernel_rfl) rfl #[.slice A82 n82 c82] (by rfl) rfl rfl (by simp [Act.eval]) ?_
    refine (join_80 A82 n82 c82 (X ++ [s]) (by rw [hr82.1, List.map_append]; exact hr82.2.2) hr82.2.1 HD.out).mono ?_
    rintro e W3 ⟨v83, rfl, hb83⟩
    refine ⟨_, rfl, ?_⟩
    have hB3 := bthen hB2 hb83
    refine hK.out _ _ (HSc.out _ hB3) (fun _ => ?_)
    clear hK K
    refine norm_ (a' := ?_) ?_ ?_
    rotate_left
    · show Act.put _ (some 83) _ = _
      simp only [Act.put, List.setIfInBounds_toArray, List.set_cons_zero, List.set_cons_succ]
      rfl
    refine pure_ (i := 12) (N := some 71) (v := ?_) (a' := ?_) #[true, true, true, true, true, true, true, true, true, true, true, true, true, false, false, false, false] rfl rfl (by kernel_rfl) (fun _ _ _ h => h) (Or.inl ⟨by rfl, ?_⟩) ?_ ?_
    rotate_left
    · intro w'
      go_simp
      with_reducible rfl
    rotate_left
    · simp only [Act.put, List.setIfInBounds_toArray, List.set_cons_zero, List.set_cons_succ]
      rfl
    refine pure_ (i := 13) (N := some 84) (v := ?_) (a' := ?_) #[true, true, true, true, true, true, true, true, true, true, true, true, true, true, false, false, false] rfl rfl (by kernel_rfl) (fun _ _ _ h => h) (Or.inl ⟨by rfl, ?_⟩) ?_ ?_
    rotate_left
    · intro w'
      go_simp
      with_reducible rfl
    rotate_left
    · simp only [Act.put, List.setIfInBounds_toArray, List.set_cons_zero, List.set_cons_succ]
      rfl
    refine pure_ (i := 14) (N := some 85) (v := ?_) (a' := ?_) #[true, true, true, true, true, true, true, true, true, true, true, true, true, true, true, false, false] rfl rfl (by kernel_rfl) (fun _ _ _ h => h) (Or.inl ⟨by rfl, ?_⟩) ?_ ?_
    rotate_left
    · intro w'
      go_simp
      with_reducible rfl
    rotate_left
    · simp only [Act.put, List.setIfInBounds_toArray, List.set_cons_zero, List.set_cons_succ]
      rfl
    refine pure_ (i := 15) (N := some 21) (v := ?_) (a' := ?_) #[true, true, true, true, true, true, true, true, true, true, true, true, true, true, true, true, false] rfl rfl (by kernel_rfl) (fun _ _ _ h => h) (Or.inl ⟨by rfl, ?_⟩) ?_ ?_
    rotate_left
    · intro w'
      go_simp
      with_reducible rfl
    rotate_left
    · simp only [Act.put, List.setIfInBounds_toArray, List.set_cons_zero, List.set_cons_succ]
      rfl
    refine pure_ (i := 16) (N := some 22) (v := ?_) (a' := ?_) #[true, true, true, true, true, true, true, true, true, true, true, true, true, true, true, true, true] rfl rfl (by kernel_rfl) (fun _ _ _ h => h) (Or.inl ⟨by rfl, ?_⟩) ?_ ?_
    rotate_left
    · intro w'
      go_simp
      with_reducible rfl
    rotate_left
    · simp only [Act.put, List.setIfInBounds_toArray, List.set_cons_zero, List.set_cons_succ]
      rfl
    refine done_ (by kernel_rfl) ?_
    have hB7 := bthenB hB6 hB6.size hB3
    clear hN hF hB hN2 hr82 hb83 hB2 hHeld
    have k1 := Kd.C_string (c := cs) slice_u8 und_u8 und_str (Kd.C_below HS6.out hB3)
    have k2 := Kd.C_string (c := ct) slice_u8 und_u8 und_str (Kd.C_below HT6.out hB3)
    have hF7 := Kd.F_below HF.out hB3
    have HF7 := Lib.hid hF7
    clear hF7 HF HFK HSc HS6 HT6
    by_cases c5 : nx < 2
    · have d5 : decide ((nx : Int) < 2) = true := decide_eq_true (by omega)
      have d5b : decide (nx < 2) = true := decide_eq_true (by omega)
      clear c5
      go_wp2_with fail
      go_ret
      exact ⟨rfl, hB7⟩
    have d5 : decide ((nx : Int) < 2) = false := decide_eq_false (by omega)
    have d5b : decide (nx < 2) = false := decide_eq_false (by omega)
    obtain ⟨Aa, ca, hFa, a0, a1, a2, a3, a4⟩ := F_cells HF7.out (i := 0) (by rw [HNX.out]; omega)
    obtain ⟨Ab, cb, hFb, b0, b1, b2, b3, b4⟩ := F_cells HF7.out (i := 1) (by rw [HNX.out]; omega)
    have hix : (X[0]'(by rw [HNX.out]; omega)).ix < (X[1]'(by rw [HNX.out]; omega)).ix := List.pairwise_iff_getElem.1 HXi.out 0 1 (by rw [HNX.out]; omega) (by rw [HNX.out]; omega) (by omega)
    obtain ⟨sa, hsa⟩ : ∃ s, X[0]'(by rw [HNX.out]; omega) = s := ⟨_, rfl⟩
    obtain ⟨sb, hsb⟩ : ∃ s, X[1]'(by rw [HNX.out]; omega) = s := ⟨_, rfl⟩
    rw [hsa] at hFa a0 a1 a2 a3 a4 hix
    rw [hsb] at hFb b0 b1 b2 b3 b4 hix
    have HE := Lib.hid (join_back sa sb hix)
    have HFa := Lib.hid hFa
    have HFb := Lib.hid hFb
    have h0n : (0 : Int) < (nx : Int) := by omega
    have h0m : 0 < nx := by omega
    have h1m : 1 < nx := by omega
    have h1n : (1 : Int) < (nx : Int) := by omega
    clear hix hsa hsb hFa hFb c5
    simp only [Nat.zero_mul, Nat.zero_add, Nat.one_mul, Nat.reduceAdd] at a0 a1 a2 a3 a4 b0 b1 b2 b3 b4
    go_wp2_with fail
    clear k1 k2 d5 d5b
    have HSe : Hid (∀ w', Below W3.heap.size W3 w' → w'.cell? ⟨gX, 0, none⟩ = some (.int .i64 sa.ep) ∧ w'.cell? ⟨gX, 1, none⟩ = some (.int .i64 sa.ix) ∧ w'.cell? ⟨gX, 2, none⟩ = some (.int .i64 sa.th) ∧ w'.cell? ⟨gX, 3, none⟩ = some (.int .i64 sa.mn) ∧ w'.cell? ⟨gX, 4, none⟩ = some (.slice Aa sa.da.length ca) ∧
        w'.cell? ⟨gX, 5, none⟩ = some (.int .i64 sb.ep) ∧ w'.cell? ⟨gX, 6, none⟩ = some (.int .i64 sb.ix) ∧ w'.cell? ⟨gX, 7, none⟩ = some (.int .i64 sb.th) ∧ w'.cell? ⟨gX, 8, none⟩ = some (.int .i64 sb.mn) ∧ w'.cell? ⟨gX, 9, none⟩ = some (.slice Ab sb.da.length cb)) :=
      fun w' hb => ⟨pw_cell_below hb a0, pw_cell_below hb a1, pw_cell_below hb a2, pw_cell_below hb a3, pw_cell_below hb a4, pw_cell_below hb b0, pw_cell_below hb b1, pw_cell_below hb b2, pw_cell_below hb b3, pw_cell_below hb b4⟩
    clear a0 a1 a2 a3 a4 b0 b1 b2 b3 b4
    have hbd3 : Below W3.heap.size W3 W3.drew := below_drew (Below.refl _ _)
    refine start_ (n := 13) (S := fun w' => w'.cell? ⟨gX, 0, none⟩ = some (.int .i64 sa.ep) ∧ w'.cell? ⟨gX, 1, none⟩ = some (.int .i64 sa.ix) ∧ w'.cell? ⟨gX, 2, none⟩ = some (.int .i64 sa.th) ∧ w'.cell? ⟨gX, 3, none⟩ = some (.int .i64 sa.mn) ∧ w'.cell? ⟨gX, 4, none⟩ = some (.slice Aa sa.da.length ca) ∧
        w'.cell? ⟨gX, 5, none⟩ = some (.int .i64 sb.ep) ∧ w'.cell? ⟨gX, 6, none⟩ = some (.int .i64 sb.ix) ∧ w'.cell? ⟨gX, 7, none⟩ = some (.int .i64 sb.th) ∧ w'.cell? ⟨gX, 8, none⟩ = some (.int .i64 sb.mn) ∧ w'.cell? ⟨gX, 9, none⟩ = some (.slice Ab sb.da.length cb)) (ds := []) #[false, false, false, false, false, false, false, false, false, false, false, false, false] (by kernel_rfl) rfl rfl (HSe.out _ hbd3) (fun hHeld => ?_)
    generalize W3.drew = wd3 at *
    refine pure_ (i := 0) (N := some 107) (v := ?_) (a' := ?_) #[true, false, false, false, false, false, false, false, false, false, false, false, false] rfl rfl (by kernel_rfl) (fun _ _ _ h => h) (Or.inl ⟨by rfl, ?_⟩) ?_ ?_
    rotate_left
    · intro w'
      go_simp
      with_reducible rfl
    rotate_left
    · simp only [Act.put, List.setIfInBounds_toArray, List.set_cons_zero, List.set_cons_succ]
      rfl
    refine pure_ (i := 1) (N := some 108) (v := ?_) (a' := ?_) #[true, true, false, false, false, false, false, false, false, false, false, false, false] rfl rfl (by kernel_rfl) (fun _ _ _ h => h) (Or.inl ⟨by rfl, ?_⟩) ?_ ?_
    rotate_left
    · intro w'
      go_simp
      with_reducible rfl
    rotate_left
    · simp only [Act.put, List.setIfInBounds_toArray, List.set_cons_zero, List.set_cons_succ]
      rfl
    refine take_ (i := 2) (N := some 109) (v := ?_) (a' := ?_) #[true, true, true, false, false, false, false, false, false, false, false, false, false] rfl rfl (by kernel_rfl) (fun _ _ _ h => h) (Or.inl ⟨by rfl, ?_⟩) hHeld ?_ ?_
    rotate_left
    · intro w' hs
      obtain ⟨s0, s1, s2, s3, s4, s5, s6, s7, s8, s9⟩ := hs; go_simp
      with_reducible rfl
    rotate_left
    · simp only [Act.put, List.setIfInBounds_toArray, List.set_cons_zero, List.set_cons_succ]
      rfl
    refine pure_ (i := 3) (N := some 110) (v := ?_) (a' := ?_) #[true, true, true, true, false, false, false, false, false, false, false, false, false] rfl rfl (by kernel_rfl) (fun _ _ _ h => h) (Or.inl ⟨by rfl, ?_⟩) ?_ ?_
    rotate_left
    · intro w'
      go_simp
      with_reducible rfl
    rotate_left
    · simp only [Act.put, List.setIfInBounds_toArray, List.set_cons_zero, List.set_cons_succ]
      rfl
    refine pure_ (i := 4) (N := some 111) (v := ?_) (a' := ?_) #[true, true, true, true, true, false, false, false, false, false, false, false, false] rfl rfl (by kernel_rfl) (fun _ _ _ h => h) (Or.inl ⟨by rfl, ?_⟩) ?_ ?_
    rotate_left
    · intro w'
      go_simp
      with_reducible rfl
    rotate_left
    · simp only [Act.put, List.setIfInBounds_toArray, List.set_cons_zero, List.set_cons_succ]
      rfl
    refine take_ (i := 5) (N := some 112) (v := ?_) (a' := ?_) #[true, true, true, true, true, true, false, false, false, false, false, false, false] rfl rfl (by kernel_rfl) (fun _ _ _ h => h) (Or.inl ⟨by rfl, ?_⟩) hHeld ?_ ?_
    rotate_left
    · intro w' hs
      obtain ⟨s0, s1, s2, s3, s4, s5, s6, s7, s8, s9⟩ := hs; go_simp
      with_reducible rfl
    rotate_left
    · simp only [Act.put, List.setIfInBounds_toArray, List.set_cons_zero, List.set_cons_succ]
      rfl
    refine one_ (i := 6) (N := some 113) #[true, true, true, true, true, true, true, false, false, false, false, false, false] rfl rfl (by kernel_rfl) (by decide) (fun K hK => ?_)
    refine Kd.N_lit_step k52 (w0 := W3) W3.heap.size 52 (by rfl) (N' := 113) rfl (xs := [sI sb, sI sa]) (inner := [.int .i64 sb.ep, .int .i64 sb.ix, .int .i64 sb.th, .int .i64 sb.mn, .slice Ab sb.da.length cb, .int .i64 sa.ep, .int .i64 sa.ix, .int .i64 sa.th, .int .i64 sa.mn, .slice Aa sa.da.length ca]) (ok := fun _ => True) (okp := fun k => True ∧ k < w6.heap.size) (by first | (go_simp; done) | (go_simp; rfl)) (reps10 (Kd.FK_below HFb.out hbd3) (Kd.FK_below HFa.out hbd3)) (fun _ _ => trivial) trivial hbd3 hbd3.size (by simp) ?_
    intro v113 W4 hN4 hB4' _ _
    refine hK.out _ _ (HSe.out _ hB4') (fun _ => ?_)
    clear hK K
    obtain ⟨A113, c113, rfl⟩ := Kd.N_slice hN4
    obtain ⟨_, g1, g2⟩ := Kd.N_reads' hN4
    refine norm_ (a' := ?_) ?_ ?_
    rotate_left
    · show Act.put _ (some 113) _ = _
      simp only [Act.put, List.setIfInBounds_toArray, List.set_cons_zero, List.set_cons_succ]
      rfl
    refine one_ (i := 7) (N := some 114) #[true, true, true, true, true, true, true, true, false, false, false, false, false] rfl rfl (by kernel_rfl) (by decide) (fun K hK => ?_)
    refine goes_ Try.func30 (by kernel_rfl) rfl #[.slice A113 2 c113] (by rfl) rfl rfl (by simp [Act.eval]) ?_
    refine (join_80 A113 2 c113 [sb, sa] g2 g1 HE.out).mono ?_
    rintro e W5 ⟨v114, rfl, hb5'⟩
    refine ⟨_, rfl, ?_⟩
    have hB5' := bthen hB4' hb5'
    refine hK.out _ _ (HSe.out _ hB5') (fun _ => ?_)
    clear hK K
    refine norm_ (a' := ?_) ?_ ?_
    rotate_left
    · show Act.put _ (some 114) _ = _
      simp only [Act.put, List.setIfInBounds_toArray, List.set_cons_zero, List.set_cons_succ]
      rfl
    refine pure_ (i := 8) (N := some 106) (v := ?_) (a' := ?_) #[true, true, true, true, true, true, true, true, true, false, false, false, false] rfl rfl (by kernel_rfl) (fun _ _ _ h => h) (Or.inl ⟨by rfl, ?_⟩) ?_ ?_
    rotate_left
    · intro w'
      go_simp
      with_reducible rfl
    rotate_left
    · simp only [Act.put, List.setIfInBounds_toArray, List.set_cons_zero, List.set_cons_succ]
      rfl
    refine pure_ (i := 9) (N := some 115) (v := ?_) (a' := ?_) #[true, true, true, true, true, true, true, true, true, true, false, false, false] rfl rfl (by kernel_rfl) (fun _ _ _ h => h) (Or.inl ⟨by rfl, ?_⟩) ?_ ?_
    rotate_left
    · intro w'
      go_simp
      with_reducible rfl
    rotate_left
    · simp only [Act.put, List.setIfInBounds_toArray, List.set_cons_zero, List.set_cons_succ]
      rfl
    refine pure_ (i := 10) (N := some 116) (v := ?_) (a' := ?_) #[true, true, true, true, true, true, true, true, true, true, true, false, false] rfl rfl (by kernel_rfl) (fun _ _ _ h => h) (Or.inl ⟨by rfl, ?_⟩) ?_ ?_
    rotate_left
    · intro w'
      go_simp
      with_reducible rfl
    rotate_left
    · simp only [Act.put, List.setIfInBounds_toArray, List.set_cons_zero, List.set_cons_succ]
      rfl
    refine pure_ (i := 11) (N := some 23) (v := ?_) (a' := ?_) #[true, true, true, true, true, true, true, true, true, true, true, true, false] rfl rfl (by kernel_rfl) (fun _ _ _ h => h) (Or.inl ⟨by rfl, ?_⟩) ?_ ?_
    rotate_left
    · intro w'
      go_simp
      with_reducible rfl
    rotate_left
    · simp only [Act.put, List.setIfInBounds_toArray, List.set_cons_zero, List.set_cons_succ]
      rfl
    refine pure_ (i := 12) (N := some 24) (v := ?_) (a' := ?_) #[true, true, true, true, true, true, true, true, true, true, true, true, true] rfl rfl (by kernel_rfl) (fun _ _ _ h => h) (Or.inl ⟨by rfl, ?_⟩) ?_ ?_
    rotate_left
    · intro w'
      go_simp
      with_reducible rfl
    rotate_left
    · simp only [Act.put, List.setIfInBounds_toArray, List.set_cons_zero, List.set_cons_succ]
      rfl
    refine done_ (by kernel_rfl) ?_
    have hB8 := bthen hB7 hB5'
    clear hHeld hN4 g1 g2 hb5' hB4' HSe
    go_wp2_with fail
    go_ret
    exact ⟨rfl, hB8⟩
  refine join_ (σ := Value × (Option Addr × Nat)) 8 #[true, true, false, true, true, true, true, true, true, true, false, false, false, false, false, false, false] (fun s => [(72, s.1), (81, .slice s.2.1 1 s.2.2)])
    (fun t W1 => Kd.N k52 52 W1 w6.heap.size (fun _ => True) t.1 [] ∧ Kd.F k52 W1 (fun k => True ∧ some k ≠ t.1.ownBlock) t.2.1 1 [sI s] ∧ Below w6.heap.size w6 W1) ?_ (fun hJ2 => ?_)
  · rintro ⟨vE, ⟨A81, c81⟩⟩ W1 ⟨hN, hF, hB⟩
    dsimp only at hN hF hB ⊢
    refine norm_ (a' := ?_) ?_ ?_
    rotate_left
    · simp only [putAll, List.foldl, Act.put, List.setIfInBounds_toArray, List.set_cons_zero, List.set_cons_succ]
      rfl
    refine one_ (i := 2) (N := some 74) #[true, true, true, true, true, true, true, true, true, true, false, false, false, false, false, false, false] rfl rfl (by kernel_rfl) (by decide) (fun K hK => ?_)
    refine Kd.N_append_rows_step k52 (w0 := w6) w6.heap.size (by rfl) (.tmp 72) (.tmp 73) 37 52 (.agg #[(.int .i64 0), (.int .i64 0), (.int .i64 0), (.int .i64 0), (.slice none 0 0)]) 56 rfl slice_sh Try.info52 rfl (by decide) (by omega) vE [] (X.map sI) (some ⟨gX, 0, none⟩) nx cX (fun _ => True) (fun k => True ∧ k < w6.heap.size) rfl rfl hN (Kd.F_below HF.out hB) (fun k hk => ⟨trivial, fun he => by have h1 := Kd.N_base hN k he.symm; have h2 := hk.2; omega⟩) (fun _ _ => trivial) hB hB.size (by simp; omega) ?_
    intro v74 W2 hN2 hB2 hg2 hat2
    refine hK.out _ _ (HSc.out _ hB2) (fun _ => ?_)
    clear hK K
    refine norm_ (a' := ?_) ?_ ?_
    rotate_left
    · show Act.put _ (some 74) _ = _
      simp only [Act.put, List.setIfInBounds_toArray, List.set_cons_zero, List.set_cons_succ]
      rfl
    exact hJ (vE, v74, (A81, c81)) W2 ⟨hN2, Kd.F_after hF hg2 hat2, hB2⟩
  refine two_ (i := 0) (j := 9) (Ni := some 72) (Nj := some 81) #[true, true, false, true, true, true, true, true, true, false, false, false, false, false, false, false, false] #[false, true, false, true, true, true, true, true, true, true, false, false, false, false, false, false, false] rfl rfl rfl rfl (by kernel_rfl) (by decide) (by decide) (fun K hK => ?_) (fun K hK => ?_)
  · -- the empty row first
    refine Kd.N_lit_step k52 (w0 := w6) w6.heap.size 52 (by rfl) (N' := 72) rfl (xs := []) (inner := []) (ok := fun _ => True) (okp := fun _ => True) (by first | (go_simp; done) | (go_simp; rfl)) (Reps.none _ _) (fun _ h => h) trivial hbd hbd.size (by simp) ?_
    intro vE W1 hN1 hB1' hg1 hat1
    refine hK.out _ _ (HSc.out _ hB1') (fun _ => ?_)
    clear hK K
    refine norm_ (a' := ?_) ?_ ?_
    rotate_left
    · show Act.put _ (some 72) _ = _
      simp only [Act.put, List.setIfInBounds_toArray, List.set_cons_zero, List.set_cons_succ]
      rfl
    refine two_ (i := 2) (j := 9) (Ni := some 74) (Nj := some 81) #[true, true, true, true, true, true, true, true, true, false, false, false, false, false, false, false, false] #[true, true, false, true, true, true, true, true, true, true, false, false, false, false, false, false, false] rfl rfl rfl rfl (by kernel_rfl) (by decide) (by decide) (fun K hK => ?_) (fun K hK => ?_)
    · refine Kd.N_append_rows_step k52 (w0 := w6) w6.heap.size (by rfl) (.tmp 72) (.tmp 73) 37 52 (.agg #[(.int .i64 0), (.int .i64 0), (.int .i64 0), (.int .i64 0), (.slice none 0 0)]) 56 rfl slice_sh Try.info52 rfl (by decide) (by omega) vE [] (X.map sI) (some ⟨gX, 0, none⟩) nx cX (fun _ => True) (fun k => True ∧ k < w6.heap.size) rfl rfl hN1 (Kd.F_below HF.out hB1') (fun k hk => ⟨trivial, fun he => by have h1 := Kd.N_base hN1 k he.symm; have h2 := hk.2; omega⟩) (fun _ _ => trivial) hB1' hB1'.size (by simp; omega) ?_
      intro v74 W2 hN2 hB2 hg2 hat2
      refine hK.out _ _ (HSc.out _ hB2) (fun _ => ?_)
      clear hK K
      refine norm_ (a' := ?_) ?_ ?_
      rotate_left
      · show Act.put _ (some 74) _ = _
        simp only [Act.put, List.setIfInBounds_toArray, List.set_cons_zero, List.set_cons_succ]
        rfl
      refine one_ (i := 9) (N := some 81) #[true, true, true, true, true, true, true, true, true, true, false, false, false, false, false, false, false] rfl rfl (by kernel_rfl) (by decide) (fun K hK => ?_)
      refine Kd.N_lit_step k52 (w0 := w6) w6.heap.size 52 (by rfl) (N' := 81) rfl (xs := [sI s]) (inner := [.int .i64 s.ep, .int .i64 s.ix, .int .i64 s.th, .int .i64 s.mn, .slice Ad s.da.length cd]) (ok := fun k => True ∧ some k ≠ v74.ownBlock) (okp := fun k => True ∧ k < w6.heap.size) (by first | (go_simp; done) | (go_simp; rfl)) (reps5 (Kd.FK_below HFK.out hB2)) (fun k hk => ⟨trivial, fun he => by have h1 := Kd.N_base hN2 k he.symm; have h2 := hk.2; omega⟩) ⟨trivial, fun he => Nat.lt_irrefl _ (Kd.N_lt hN2 _ he.symm)⟩ hB2 hB2.size (by simp) ?_
      intro v81 W3 hN3 hB3 hg3 hat3
      refine hK.out _ _ (HSc.out _ hB3) (fun _ => ?_)
      clear hK K
      obtain ⟨A81, c81, rfl⟩ := Kd.N_slice hN3
      refine norm_ (a' := ?_) ?_ ?_
      rotate_left
      · show Act.put _ (some 81) _ = _
        simp only [Act.put, List.setIfInBounds_toArray, List.set_cons_zero, List.set_cons_succ]
        rfl
      exact hJ (vE, v74, (A81, c81)) W3 ⟨Kd.N_below hN2 (grown_below hg3), Kd.N_F hN3, hB3⟩
    · refine Kd.N_lit_step k52 (w0 := w6) w6.heap.size 52 (by rfl) (N' := 81) rfl (xs := [sI s]) (inner := [.int .i64 s.ep, .int .i64 s.ix, .int .i64 s.th, .int .i64 s.mn, .slice Ad s.da.length cd]) (ok := fun k => True ∧ some k ≠ vE.ownBlock) (okp := fun k => True ∧ k < w6.heap.size) (by first | (go_simp; done) | (go_simp; rfl)) (reps5 (Kd.FK_below HFK.out hB1')) (fun k hk => ⟨trivial, fun he => by have h1 := Kd.N_base hN1 k he.symm; have h2 := hk.2; omega⟩) ⟨trivial, fun he => Nat.lt_irrefl _ (Kd.N_lt hN1 _ he.symm)⟩ hB1' hB1'.size (by simp) ?_
      intro v81 W3 hN3 hB3 hg3 hat3
      refine hK.out _ _ (HSc.out _ hB3) (fun _ => ?_)
      clear hK K
      obtain ⟨A81, c81, rfl⟩ := Kd.N_slice hN3
      refine norm_ (a' := ?_) ?_ ?_
      rotate_left
      · show Act.put _ (some 81) _ = _
        simp only [Act.put, List.setIfInBounds_toArray, List.set_cons_zero, List.set_cons_succ]
        rfl
      exact hJ2 (vE, (A81, c81)) W3 ⟨Kd.N_below hN1 (grown_below hg3), Kd.N_F hN3, hB3⟩
  · refine Kd.N_lit_step k52 (w0 := w6) w6.heap.size 52 (by rfl) (N' := 81) rfl (xs := [sI s]) (inner := [.int .i64 s.ep, .int .i64 s.ix, .int .i64 s.th, .int .i64 s.mn, .slice Ad s.da.length cd]) (ok := fun _ => True) (okp := fun k => True ∧ k < w6.heap.size) (by first | (go_simp; done) | (go_simp; rfl)) (reps5 (Kd.FK_below HFK.out hbd)) (fun _ _ => trivial) trivial hbd hbd.size (by simp) ?_
    intro v81 W1 hN1 hB1' hg1 hat1
    refine hK.out _ _ (HSc.out _ hB1') (fun _ => ?_)
    clear hK K
    obtain ⟨A81, c81, rfl⟩ := Kd.N_slice hN1
    refine norm_ (a' := ?_) ?_ ?_
    rotate_left
    · show Act.put _ (some 81) _ = _
      simp only [Act.put, List.setIfInBounds_toArray, List.set_cons_zero, List.set_cons_succ]
      rfl
    refine one_ (i := 0) (N := some 72) #[true, true, false, true, true, true, true, true, true, true, false, false, false, false, false, false, false] rfl rfl (by kernel_rfl) (by decide) (fun K hK => ?_)
    refine Kd.N_lit_step k52 (w0 := w6) w6.heap.size 52 (by rfl) (N' := 72) rfl (xs := []) (inner := []) (ok := fun _ => True) (okp := fun _ => True) (by first | (go_simp; done) | (go_simp; rfl)) (Reps.none _ _) (fun _ h => h) trivial hB1' hB1'.size (by simp) ?_
    intro vE W2 hN2 hB2 hg2 hat2
    refine hK.out _ _ (HSc.out _ hB2) (fun _ => ?_)
    clear hK K
    refine norm_ (a' := ?_) ?_ ?_
    rotate_left
    · show Act.put _ (some 72) _ = _
      simp only [Act.put, List.setIfInBounds_toArray, List.set_cons_zero, List.set_cons_succ]
      rfl
    exact hJ2 (vE, (A81, c81)) W2 ⟨hN2, Kd.F_elder' (Kd.N_F hN1) (fun k hk => by obtain ⟨b, hb, hle⟩ := hat2; rw [hb] at hk; injection hk with hk; omega) (grown_below hg2), hB2⟩
theorem any_w {w : World} (A0 : Option Addr) (c0 : Nat) (l0 : List Int) (hC0 : Kd.C (Kd.int .u8) w A0 l0.length l0) (hc0 : l0.length ≤ c0) (hW0 : ∀ x ∈ l0, (Lit.int .u8 x).wf = true)
    (a1 : Int) (w1 : (Lit.int .i64 a1).wf = true) (a2 : Int) (w2 : (Lit.int .i64 a2).wf = true)
    (A3 : Option Addr) (c3 : Nat) (l3 : List Int) (hC3 : Kd.C (Kd.int .u8) w A3 l3.length l3) (hc3 : l3.length ≤ c3) (hW3 : ∀ x ∈ l3, (Lit.int .u8 x).wf = true)
    (a4 : Int) (w4 : (Lit.int .u8 a4).wf = true) (a5 : Int) (w5 : (Lit.int .u8 a5).wf = true) :
    Calls Try.prog 13 #[.slice A0 l0.length c0, .int .i64 a1, .int .i64 a2, .slice A3 l3.length c3, .int .u8 a4, .int .u8 a5] w fun e w' => e = .returned (.bool true) ∧ Below w.heap.size w w' := by
  obtain ⟨l, rfl⟩ := ex_isB (isB_wf l0 hW0)
  obtain ⟨r, rfl⟩ := ex_isB (isB_wf l3 hW3)
  exact any_u w A0 A3 c0 c3 _ _ l r a1 a2 a4 a5 (rl_of_C hC0) hc0 (rl_of_C hC3) hc3
end Go.Proofs.Ytillfbohengpaaa
end
