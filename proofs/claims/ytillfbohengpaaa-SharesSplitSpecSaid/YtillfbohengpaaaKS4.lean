/-
  Texts of this session and laid words, merged in their order and pruned: Refresh, PAsharesCheck, PAfieldCoefficients, PAsharesExplain, SaneS, PAtestamurlaw08sane, PAtestamurlaw08SharesSplitSpec, PAsharesJoin, PAtestamurlaw08SharesJoinSpec, Opens, ShOpen, LawJoinSpec, LawSplitSpec.
-/
import Derived.Test.YtillfbohengpaaaKS3
import Derived.Test.YtillfbohengpaaaKS1
import Derived.Test.YtillfbohengpaaaKS2
import Derived.Deep.Slices
import Derived.Deep.SlicePairs
section
set_option linter.unusedVariables false
set_option linter.unusedSimpArgs false
namespace Go.Proofs.Ytillfbohengpaaa
open Go.RowKit Gf Go.Sort Go.Proofs.YtillfbohengpaaaW.PrintWords Go.Proofs.YtillfbohengpaaaW.PrintLast PA
def epN (L : List Sh) : Int := match L with | [] => 0 | a :: _ => a.ep
def mnN (L : List Sh) : Nat := match L with | [] => 0 | a :: _ => a.mn.toNat
def nextSh (s z : Sh) : Sh := ⟨s.ep + 1, s.ix, s.th, s.mn, (List.range s.da.length).map fun at_ => gx (g s.da at_) (g z.da at_)⟩
def zerosR (L : List Sh) (coins : List G) : List Sh := splitTo (List.replicate (dlN L) 0#8) coins 0 (thN L - 1) (mnN L) (mnN L)
def nextTo (L Z : List Sh) (k : Nat) : List Sh := (List.range k).map fun i => nextSh (L.getD i ⟨0, 0, 0, 0, []⟩) (Z.getD i ⟨0, 0, 0, 0, []⟩)
theorem nextTo_succ (L Z : List Sh) (k : Nat) : nextTo L Z (k + 1) = nextTo L Z k ++ [nextSh (L.getD k ⟨0, 0, 0, 0, []⟩) (Z.getD k ⟨0, 0, 0, 0, []⟩)] := by simp [nextTo, List.range_succ]
def refreshE (L : List Sh) (coins : List G) : Int :=
  if checkR L = 0 then (if L.length ≠ mnN L then 80 else if epN L = 1048576 then 81 else if coins.length ≠ dlN L * (thN L - 1) then 1 else 0) else checkR L
def refreshR (L : List Sh) (coins : List G) : List Sh := if refreshE L coins = 0 then nextTo L (zerosR L coins) L.length else []
section
variable (A B : Option Addr) (n c n2 c2 : Nat) (L : List Sh) (r : List G) (w : World)
set_option maxRecDepth 100000 in
set_option maxHeartbeats 2000000 in
theorem refresh_bad1 (hC : Kd.C k52 w A n (L.map sI)) (hck : checkR L ≠ 0) :
    Calls Try.prog 34 #[.slice A n c, .slice B n2 c2] w fun e w' => RetSh e w' w.heap.size (refreshR L r) (refreshE L r) ∧ Below w.heap.size w w' := by
  have hrs := rs_of_C hC
  have hE : refreshE L r = checkR L := by simp [refreshE, hck]
  have hR : refreshR L r = [] := by simp [refreshR, hE, hck]
  rw [hE, hR]
  have HRS := Lib.hid hrs
  have d1 : (checkR L == 0) = false := by simp [hck]
  have d2 : (checkR L != 0) = true := by simp [hck]
  clear hrs hC hE hR hck
  go_enter Try.func34, Try.ntmps34
  go_wp2_with fail
  refine (check_u (HRS.out.below (below_alloc1 _ _))).mono ?_
  rintro e w1 ⟨rfl, hb1⟩
  go_wp2_with fail
  go_ret2
  exact ⟨RetSh.none _ _ _, bthen (below_alloc1 _ _) hb1⟩
end
theorem head_cells {w : World} {A : Option Addr} {n : Nat} {a : Sh} {r : List Sh} (h : RS w A n (a :: r)) (hal : Alike a r) : ∃ b o t m Ad cd, A = some ⟨b, o, none⟩ ∧ b < w.heap.size ∧ a.th = ((t : Nat) : Int) + 1 ∧ a.mn = ((m : Nat) : Int) ∧
    w.cell? ⟨b, o, none⟩ = some (.int .i64 a.ep) ∧ w.cell? ⟨b, o + 2, none⟩ = some (.int .i64 ((t : Int) + 1)) ∧ w.cell? ⟨b, o + 3, none⟩ = some (.int .i64 (m : Int)) ∧ w.cell? ⟨b, o + 4, none⟩ = some (.slice Ad a.da.length cd) ∧ RL gv w Ad a.da.length a.da := by
  obtain ⟨b, o, rfl, hb, hc0⟩ := h.at 0 (by have := h.1; simp at this; omega)
  obtain ⟨x0, x1, x2, x3, Ad, nd, cd, c4, hda⟩ := hc0
  simp only [List.getElem_cons_zero, Nat.zero_mul, Nat.add_zero] at x0 x2 x3 c4 hda
  obtain rfl : nd = a.da.length := hda.1.symm
  obtain ⟨t, ht⟩ : ∃ t : Nat, a.th = (t : Int) + 1 := ⟨(a.th - 1).toNat, by have := hal.t1; omega⟩
  obtain ⟨m, hm⟩ : ∃ m : Nat, a.mn = (m : Int) := ⟨a.mn.toNat, by have := hal.t1; have := hal.t2; omega⟩
  rw [ht] at x2
  rw [hm] at x3
  exact ⟨b, o, t, m, Ad, cd, rfl, hb, ht, hm, x0, x2, x3, c4, hda⟩
set_option maxRecDepth 100000 in
set_option maxHeartbeats 2000000 in
theorem refresh_bad2 (A B : Option Addr) (n c n2 c2 : Nat) (a : Sh) (l : List Sh) (r : List G) (w : World) (hC : Kd.C k52 w A n ((a :: l).map sI)) (hck : checkR (a :: l) = 0) (hal : Alike a l) (hx : n ≠ mnN (a :: l) ∨ epN (a :: l) = 1048576) :
    Calls Try.prog 34 #[.slice A n c, .slice B n2 c2] w fun e w' => RetSh e w' w.heap.size (refreshR (a :: l) r) (refreshE (a :: l) r) ∧ Below w.heap.size w w' := by
  have hrs := rs_of_C hC
  obtain ⟨b, o, t, m, Ad, cd, rfl, hb, ht, hm, x0, x2, x3, c4, hda⟩ := head_cells hrs hal
  have hn := hrs.1
  have hmn : mnN (a :: l) = m := by simp [mnN, hm]
  have hni : (0 : Int) < (n : Int) := by simp at hn; omega
  rw [hmn] at hx
  have HRS := Lib.hid hrs
  by_cases hnm : n = m
  · have hep : a.ep = 1048576 := by rcases hx with h | h; exact absurd hnm h; exact h
    have hE : refreshE (a :: l) r = 81 := by unfold refreshE; rw [if_pos hck, if_neg (by rw [hmn]; omega), if_pos (by exact hep)]
    have hR : refreshR (a :: l) r = [] := by unfold refreshR; rw [hE]; rfl
    rw [hE, hR]
    rw [hep] at x0
    have d1 : ((n : Int) == (m : Int)) = true := by rw [beq_iff_eq]; omega
    have d2 : ((n : Int) != (m : Int)) = false := by rw [bne, d1]; rfl
    have HCK := Lib.hid hck
    clear hrs hC hE hR hck hn hal hep hda hx ht hm hmn hnm
    go_enter Try.func34, Try.ntmps34
    go_wp2_with fail
    refine (check_u (HRS.out.below (below_alloc1 _ _))).mono ?_
    rintro e w1 ⟨rfl, hb1⟩
    rw [HCK.out]
    have hB1 := bthen (below_alloc1 w _) hb1
    have hc1 : w1.cell? ⟨w.heap.size, 0, none⟩ = some (.slice (some ⟨b, o, none⟩) n c) := pw_cell_below hb1 (by rw [cell_new _ _ _ _ _ _ rfl]; rfl)
    replace x0 := pw_cell_below hB1 x0
    replace x3 := pw_cell_below hB1 x3
    clear x2 c4
    go_wp2_with fail
    go_quiet (fail)
    go_wp2_with fail
    go_ret2
    exact ⟨RetSh.none _ _ _, bdrewN hB1 _⟩
  · have hE : refreshE (a :: l) r = 80 := by unfold refreshE; rw [if_pos hck, if_pos (by rw [hmn, hn]; exact hnm)]
    have hR : refreshR (a :: l) r = [] := by unfold refreshR; rw [hE]; rfl
    rw [hE, hR]
    have d1 : ((n : Int) == (m : Int)) = false := by rw [beq_eq_false_iff_ne]; omega
    have d2 : ((n : Int) != (m : Int)) = true := by rw [bne, d1]; rfl
    have HCK := Lib.hid hck
    clear hrs hC hE hR hck hn hal hda hx ht hm hmn hnm
    go_enter Try.func34, Try.ntmps34
    go_wp2_with fail
    refine (check_u (HRS.out.below (below_alloc1 _ _))).mono ?_
    rintro e w1 ⟨rfl, hb1⟩
    rw [HCK.out]
    have hB1 := bthen (below_alloc1 w _) hb1
    have hc1 : w1.cell? ⟨w.heap.size, 0, none⟩ = some (.slice (some ⟨b, o, none⟩) n c) := pw_cell_below hb1 (by rw [cell_new _ _ _ _ _ _ rfl]; rfl)
    replace x3 := pw_cell_below hB1 x3
    clear x2 c4 x0
    go_wp2_with fail
    go_quiet (fail)
    go_wp2_with fail
    go_ret2
    exact ⟨RetSh.none _ _ _, bdrewN hB1 _⟩
theorem skip_step {P : Program} {ops : Array Oper} {o : Oper} {a : Act} {Q : Exit → Act → World → Prop} {Kc : Act → World → Prop} {W w1 : World} (hw : Region.wanted o (yielded ops a.tmps) = true) (hrun : (execOp a.eval o).run P W = .ok .skip w1) (h : Kc (a.put o.dst undef) w1) :
    if Region.wanted o (yielded ops a.tmps) = true then Oper.wp P o a W Kc Q else Kc (a.put o.dst undef) W := by
  rw [if_pos hw]
  unfold Oper.wp
  rw [hrun]
  exact h
theorem split_any (A B : Option Addr) (n c n2 c2 mn m : Nat) (l r : List G) (w : World) (hl : RL gv w A n l) (hr : RL gv w B n2 r) (hc2 : n2 ≤ c2) (hn : n ≤ 64) (hm : m + 1 ≤ mn) (hmn : mn ≤ 8) (hn2 : n2 ≤ 100000) :
    Calls Try.prog 25 #[.slice A n c, .int .i64 0, .int .i64 ((m : Int) + 1), .int .i64 (mn : Int), .slice B n2 c2] w fun e w' => RetSh e w' w.heap.size (if n2 = n * m then splitTo l r 0 m mn mn else []) (if n2 = n * m then 0 else 1) ∧ Below w.heap.size w w' := by
  by_cases h : n2 = n * m
  · rw [if_pos h, if_pos h]
    exact split_ok A B n c n2 c2 mn m l r 0 w hl hr hc2 hn hm hmn (by omega) (by omega) h
  · rw [if_neg h, if_neg h]
    refine split_bad A B n c n2 c2 l r 0 _ _ w hl hr (by omega) hn2 1 ?_ (by decide)
    unfold splitErr
    rw [if_neg (by omega), if_neg (by omega), if_neg (by omega), if_pos]
    intro e
    apply h
    have : ((m : Int) + 1 - 1) = (m : Int) := by omega
    rw [this] at e
    have e2 : (n2 : Int) = ((n * m : Nat) : Int) := by rw [e]; simp
    omega
set_option maxRecDepth 100000 in
set_option maxHeartbeats 4000000 in
theorem refresh_rest (A B : Option Addr) (n c n2 c2 : Nat) (a : Sh) (l : List Sh) (r : List G) (w : World) (hC : Kd.C k52 w A n ((a :: l).map sI)) (hcc : n ≤ c) (hr : RL gv w B n2 r) (hc2 : n2 ≤ c2) (hn2 : n2 ≤ 100000) (hck : checkR (a :: l) = 0) (hal : Alike a l) (hx : n = mnN (a :: l)) (hy : epN (a :: l) ≠ 1048576) :
    Calls Try.prog 34 #[.slice A n c, .slice B n2 c2] w fun e w' => RetSh e w' w.heap.size (refreshR (a :: l) r) (refreshE (a :: l) r) ∧ Below w.heap.size w w' := by
  have hrs := rs_of_C hC
  obtain ⟨b, o, t, m, Ad, cd, rfl, hb, ht, hm, x0, x2, x3, c4, hda⟩ := head_cells hrs hal
  have hn := hrs.1
  have hmn : mnN (a :: l) = m := by simp [mnN, hm]
  have hni : (0 : Int) < (n : Int) := by simp at hn; omega
  rw [hmn] at hx
  subst hx
  have HCK := Lib.hid hck
  obtain ⟨zl, hzl⟩ : ∃ zl, zl = (if n2 = a.da.length * t then splitTo (List.replicate a.da.length 0#8) r 0 t n n else []) := ⟨_, rfl⟩
  obtain ⟨er, her⟩ : ∃ er : Int, er = (if n2 = a.da.length * t then 0 else 1) := ⟨_, rfl⟩
  have hthn : thN (a :: l) = t + 1 := by simp [thN, ht]
  have hdl : dlN (a :: l) = a.da.length := rfl
  have hE : refreshE (a :: l) r = er := by
    unfold refreshE
    rw [if_pos hck, if_neg (by rw [hmn]; omega), if_neg hy, hthn, hdl, hr.1, her]
    simp only [Nat.add_sub_cancel]
    by_cases h : n2 = a.da.length * t <;> simp [h]
  have hR : refreshR (a :: l) r = if er = 0 then nextTo (a :: l) zl n else [] := by
    unfold refreshR zerosR
    rw [hE, hdl, hthn, hmn, hzl, hn]
    simp only [Nat.add_sub_cancel]
    by_cases h : n2 = a.da.length * t <;> simp [h, her]
  have hzlen : er = 0 → zl.length = n ∧ ∀ s ∈ zl, s.da.length = a.da.length := by
    intro h0
    rw [her] at h0
    by_cases h : n2 = a.da.length * t
    · rw [hzl, if_pos h]
      exact ⟨by simp [splitTo], fun s hs => by
        obtain ⟨j, _, rfl⟩ := List.mem_map.1 hs
        simp [shareG, dataG]⟩
    · rw [if_neg h] at h0; cases h0
  have her1 : er = 0 ∨ er = 1 := by rw [her]; by_cases h : n2 = a.da.length * t <;> simp [h]
  rw [hE, hR]
  have hlen64 := hal.d
  have ht8 : t + 1 ≤ n := by have := hal.t2; omega
  have hm8 : n ≤ 8 := by have := hal.t3; omega
  have hda2 : ∀ s ∈ a :: l, s.da.length = a.da.length := fun s hs => (hal.all s hs).2.2.1
  have hep63 : ∀ s ∈ a :: l, 0 ≤ s.ep ∧ s.ep ≤ 1048576 := by
    obtain ⟨a', r', e, _, hep⟩ := check0 hck
    exact fun s hs => (hep s hs).2
  have HEP := Lib.hid hep63
  have HDA := Lib.hid hda2
  have HZL := Lib.hid hzl
  have HER := Lib.hid her
  have HZN := Lib.hid hzlen
  have HRS := Lib.hid hrs
  have HRC := Lib.hid hr
  have HN := Lib.hid hn
  have hn0 : 0 < n := by omega
  have d1 : ((n : Int) == (n : Int)) = true := by simp
  have d2 : ((n : Int) != (n : Int)) = false := by simp
  have d3 : (a.ep == 1048576) = false := by rw [beq_eq_false_iff_ne]; exact hy
  clear hrs hC hE hR hck hn hal hda ht hm hmn hzl her hzlen hda2 hep63 hthn hdl hr hy
  go_enter Try.func34, Try.ntmps34
  go_wp2_with fail
  refine (check_u (HRS.out.below (below_alloc1 _ _))).mono ?_
  rintro e w1 ⟨rfl, hb1⟩
  rw [HCK.out]
  have hB1 := bthen (below_alloc1 w _) hb1
  have hc1 : w1.cell? ⟨w.heap.size, 0, none⟩ = some (.slice (some ⟨b, o, none⟩) n c) := pw_cell_below hb1 (by rw [cell_new _ _ _ _ _ _ rfl]; rfl)
  replace x0 := pw_cell_below hB1 x0
  replace x2 := pw_cell_below hB1 x2
  replace x3 := pw_cell_below hB1 x3
  replace c4 := pw_cell_below hB1 c4
  go_wp2_with fail
  go_quiet (fail)
  go_wp2_with fail
  generalize hwd : (w1.drewN nq) = wn
  have hbn : Below w1.heap.size w1 wn := by rw [← hwd]; exact bdrewN (Below.refl _ _) _
  clear hwd
  have hBd : Below w1.heap.size w1 wn.drew := below_drew hbn
  have HS : Hid (∀ w', Below w1.heap.size w1 w' → w'.cell? ⟨w.heap.size, 0, none⟩ = some (.slice (some ⟨b, o, none⟩) n c) ∧ w'.cell? ⟨b, o + 2, none⟩ = some (.int .i64 ((t : Int) + 1)) ∧ w'.cell? ⟨b, o + 3, none⟩ = some (.int .i64 (n : Int)) ∧ w'.cell? ⟨b, o + 4, none⟩ = some (.slice Ad a.da.length cd)) :=
    fun w' hb => ⟨pw_cell_below hb hc1, pw_cell_below hb x2, pw_cell_below hb x3, pw_cell_below hb c4⟩
  refine start_ (n := 22) (S := fun w' => w'.cell? ⟨w.heap.size, 0, none⟩ = some (.slice (some ⟨b, o, none⟩) n c) ∧ w'.cell? ⟨b, o + 2, none⟩ = some (.int .i64 ((t : Int) + 1)) ∧ w'.cell? ⟨b, o + 3, none⟩ = some (.int .i64 (n : Int)) ∧ w'.cell? ⟨b, o + 4, none⟩ = some (.slice Ad a.da.length cd)) (ds := []) #[false, false, false, false, false, false, false, false, false, false, false, false, false, false, false, false, false, false, false, false, false, false] (by kernel_rfl) rfl rfl (HS.out _ hBd) (fun hHeld => ?_)
  generalize wn.drew = wd at *
  refine take_ (i := 0) (N := some 27) (v := ?_) (a' := ?_) #[true, false, false, false, false, false, false, false, false, false, false, false, false, false, false, false, false, false, false, false, false, false] rfl rfl (by kernel_rfl) (fun _ _ _ h => h) (Or.inl ⟨by rfl, ?_⟩) hHeld ?_ ?_
  rotate_left
  · intro w' hs
    obtain ⟨s1, s2, s3, s4⟩ := hs; go_simp
    with_reducible rfl
  rotate_left
  · simp only [Act.put, List.setIfInBounds_toArray, List.set_cons_zero, List.set_cons_succ]
    rfl
  refine pure_ (i := 1) (N := some 28) (v := ?_) (a' := ?_) #[true, true, false, false, false, false, false, false, false, false, false, false, false, false, false, false, false, false, false, false, false, false] rfl rfl (by kernel_rfl) (fun _ _ _ h => h) (Or.inl ⟨by rfl, ?_⟩) ?_ ?_
  rotate_left
  · intro w'
    go_simp
    with_reducible rfl
  rotate_left
  · simp only [Act.put, List.setIfInBounds_toArray, List.set_cons_zero, List.set_cons_succ]
    rfl
  refine pure_ (i := 2) (N := some 29) (v := ?_) (a' := ?_) #[true, true, true, false, false, false, false, false, false, false, false, false, false, false, false, false, false, false, false, false, false, false] rfl rfl (by kernel_rfl) (fun _ _ _ h => h) (Or.inl ⟨by rfl, ?_⟩) ?_ ?_
  rotate_left
  · intro w'
    go_simp
    with_reducible rfl
  rotate_left
  · simp only [Act.put, List.setIfInBounds_toArray, List.set_cons_zero, List.set_cons_succ]
    rfl
  refine take_ (i := 3) (N := some 30) (v := ?_) (a' := ?_) #[true, true, true, true, false, false, false, false, false, false, false, false, false, false, false, false, false, false, false, false, false, false] rfl rfl (by kernel_rfl) (fun _ _ _ h => h) (Or.inl ⟨by rfl, ?_⟩) hHeld ?_ ?_
  rotate_left
  · intro w' hs
    obtain ⟨s1, s2, s3, s4⟩ := hs; go_simp
    with_reducible rfl
  rotate_left
  · simp only [Act.put, List.setIfInBounds_toArray, List.set_cons_zero, List.set_cons_succ]
    rfl
  refine pure_ (i := 4) (N := some 31) (v := ?_) (a' := ?_) #[true, true, true, true, true, false, false, false, false, false, false, false, false, false, false, false, false, false, false, false, false, false] rfl rfl (by kernel_rfl) (fun _ _ _ h => h) (Or.inl ⟨by rfl, ?_⟩) ?_ ?_
  rotate_left
  · intro w'
    go_simp
    with_reducible rfl
  rotate_left
  · simp only [Act.put, List.setIfInBounds_toArray, List.set_cons_zero, List.set_cons_succ]
    rfl
  refine take_ (i := 6) (N := some 33) (v := ?_) (a' := ?_) #[true, true, true, true, true, false, true, false, false, false, false, false, false, false, false, false, false, false, false, false, false, false] rfl rfl (by kernel_rfl) (fun _ _ _ h => h) (Or.inl ⟨by rfl, ?_⟩) hHeld ?_ ?_
  rotate_left
  · intro w' hs
    obtain ⟨s1, s2, s3, s4⟩ := hs; go_simp
    with_reducible rfl
  rotate_left
  · simp only [Act.put, List.setIfInBounds_toArray, List.set_cons_zero, List.set_cons_succ]
    rfl
  refine pure_ (i := 7) (N := some 34) (v := ?_) (a' := ?_) #[true, true, true, true, true, false, true, true, false, false, false, false, false, false, false, false, false, false, false, false, false, false] rfl rfl (by kernel_rfl) (fun _ _ _ h => h) (Or.inl ⟨by rfl, ?_⟩) ?_ ?_
  rotate_left
  · intro w'
    go_simp
    with_reducible rfl
  rotate_left
  · simp only [Act.put, List.setIfInBounds_toArray, List.set_cons_zero, List.set_cons_succ]
    rfl
  refine pure_ (i := 8) (N := some 35) (v := ?_) (a' := ?_) #[true, true, true, true, true, false, true, true, true, false, false, false, false, false, false, false, false, false, false, false, false, false] rfl rfl (by kernel_rfl) (fun _ _ _ h => h) (Or.inl ⟨by rfl, ?_⟩) ?_ ?_
  rotate_left
  · intro w'
    go_simp
    with_reducible rfl
  rotate_left
  · simp only [Act.put, List.setIfInBounds_toArray, List.set_cons_zero, List.set_cons_succ]
    rfl
  refine take_ (i := 9) (N := some 36) (v := ?_) (a' := ?_) #[true, true, true, true, true, false, true, true, true, true, false, false, false, false, false, false, false, false, false, false, false, false] rfl rfl (by kernel_rfl) (fun _ _ _ h => h) (Or.inl ⟨by rfl, ?_⟩) hHeld ?_ ?_
  rotate_left
  · intro w' hs
    obtain ⟨s1, s2, s3, s4⟩ := hs; go_simp
    with_reducible rfl
  rotate_left
  · simp only [Act.put, List.setIfInBounds_toArray, List.set_cons_zero, List.set_cons_succ]
    rfl
  refine take_ (i := 10) (N := some 37) (v := ?_) (a' := ?_) #[true, true, true, true, true, false, true, true, true, true, true, false, false, false, false, false, false, false, false, false, false, false] rfl rfl (by kernel_rfl) (fun _ _ _ h => h) (Or.inl ⟨by rfl, ?_⟩) hHeld ?_ ?_
  rotate_left
  · intro w' hs
    obtain ⟨s1, s2, s3, s4⟩ := hs; go_simp
    with_reducible rfl
  rotate_left
  · simp only [Act.put, List.setIfInBounds_toArray, List.set_cons_zero, List.set_cons_succ]
    rfl
  refine pure_ (i := 11) (N := some 38) (v := ?_) (a' := ?_) #[true, true, true, true, true, false, true, true, true, true, true, true, false, false, false, false, false, false, false, false, false, false] rfl rfl (by kernel_rfl) (fun _ _ _ h => h) (Or.inl ⟨by rfl, ?_⟩) ?_ ?_
  rotate_left
  · intro w'
    go_simp
    with_reducible rfl
  rotate_left
  · simp only [Act.put, List.setIfInBounds_toArray, List.set_cons_zero, List.set_cons_succ]
    rfl
  refine pure_ (i := 12) (N := some 39) (v := ?_) (a' := ?_) #[true, true, true, true, true, false, true, true, true, true, true, true, true, false, false, false, false, false, false, false, false, false] rfl rfl (by kernel_rfl) (fun _ _ _ h => h) (Or.inl ⟨by rfl, ?_⟩) ?_ ?_
  rotate_left
  · intro w'
    go_simp
    with_reducible rfl
  rotate_left
  · simp only [Act.put, List.setIfInBounds_toArray, List.set_cons_zero, List.set_cons_succ]
    rfl
  refine take_ (i := 13) (N := some 40) (v := ?_) (a' := ?_) #[true, true, true, true, true, false, true, true, true, true, true, true, true, true, false, false, false, false, false, false, false, false] rfl rfl (by kernel_rfl) (fun _ _ _ h => h) (Or.inl ⟨by rfl, ?_⟩) hHeld ?_ ?_
  rotate_left
  · intro w' hs
    obtain ⟨s1, s2, s3, s4⟩ := hs; go_simp
    with_reducible rfl
  rotate_left
  · simp only [Act.put, List.setIfInBounds_toArray, List.set_cons_zero, List.set_cons_succ]
    rfl
  refine pure_ (i := 14) (N := some 41) (v := ?_) (a' := ?_) #[true, true, true, true, true, false, true, true, true, true, true, true, true, true, true, false, false, false, false, false, false, false] rfl rfl (by kernel_rfl) (fun _ _ _ h => h) (Or.inl ⟨by rfl, ?_⟩) ?_ ?_
  rotate_left
  · intro w'
    go_simp
    with_reducible rfl
  rotate_left
  · simp only [Act.put, List.setIfInBounds_toArray, List.set_cons_zero, List.set_cons_succ]
    rfl
  refine join_ (σ := (Option Addr × Nat) × Value × Nat) 2 #[true, true, true, true, true, true, true, true, true, true, true, true, true, true, true, true, true, true, true, true, false, false] (fun s => [(32, .slice s.1.1 a.da.length s.1.2), (42, .tuple #[s.2.1, .int .i64 er]), (26, .tuple #[s.2.1, .int .i64 er]), (43, s.2.1), (44, .int .i64 er), (6, .pointer (some ⟨s.2.2, 0, none⟩))])
    (fun s W1 => Kd.S k52 52 W1 w1.heap.size (fun _ => True) s.2.1 (zl.map sI) ∧ W1.heap[s.2.2]? = some (.cells #[.slice none 0 0] 37 (0, 0)) ∧ w1.heap.size ≤ s.2.2 ∧ Below w1.heap.size w1 W1) ?_ (fun hJ => ?_)
  · rintro ⟨⟨ZA, ZC⟩, zv, p6⟩ W1 ⟨hZ, hp6, hp6b, hBW⟩
    dsimp only at hZ hp6 hp6b hBW ⊢
    obtain ⟨VA, VC, rfl, hzc, hZC⟩ := Kd.S_reads hZ
    rw [List.length_map] at hZC hzc
    refine norm_ (a' := ?_) ?_ ?_
    rotate_left
    · simp only [putAll, List.foldl, Act.put, List.setIfInBounds_toArray, List.set_cons_zero, List.set_cons_succ, List.length_map]
      rfl
    have hp6c : W1.cell? ⟨p6, 0, none⟩ = some (.slice none 0 0) := by rw [blk_cell hp6]; rfl
    have hp6f : W1.frozen? ⟨p6, 0, none⟩ = false := blk_frozen hp6 0
    have hset : Below w1.heap.size w1 (W1.setCell ⟨p6, 0, none⟩ (.slice VA zl.length VC)) := hBW.setCell hp6b _
    refine one_ (i := 20) (N := none) #[true, true, true, true, true, true, true, true, true, true, true, true, true, true, true, true, true, true, true, true, true, false] rfl rfl (by kernel_rfl) (by decide) (fun K hK => ?_)
    refine skip_step (w1 := W1.setCell ⟨p6, 0, none⟩ (.slice VA zl.length VC)) (by rfl) (by first | (go_simp; done) | (go_simp; rfl)) ?_
    refine hK.out _ _ (HS.out _ hset) (fun _ => ?_)
    clear hK K
    refine norm_ (a' := ?_) ?_ ?_
    rotate_left
    · simp only [Act.put]
      rfl
    refine pure_ (i := 21) (N := some 5) (v := ?_) (a' := ?_) #[true, true, true, true, true, true, true, true, true, true, true, true, true, true, true, true, true, true, true, true, true, true] rfl rfl (by kernel_rfl) (fun _ _ _ h => h) (Or.inl ⟨by rfl, ?_⟩) ?_ ?_
    rotate_left
    · intro w'
      go_simp
      with_reducible rfl
    rotate_left
    · simp only [Act.put, List.setIfInBounds_toArray, List.set_cons_zero, List.set_cons_succ]
      rfl
    refine done_ (by kernel_rfl) ?_
    have hz2 := Kd.S_set hZ hp6 (by decide) 0 (.slice VA zl.length VC)
    have hq6 := blk_set hp6 0 (.slice VA zl.length VC)
    generalize W1.setCell ⟨p6, 0, none⟩ (.slice VA zl.length VC) = W2 at *
    clear hZ hp6 hp6c hp6f hZC hHeld hBW
    have HZ2 := Lib.hid hz2
    have HQ6 := Lib.hid hq6
    clear hz2 hq6
    obtain ⟨k1, k2, k3, k4⟩ := HS.out _ hset
    have hBW := bthenB hB1 hB1.size hset
    rcases her1 with rfl | rfl
    case inr =>
      go_wp2_with fail
      go_ret2
      exact ⟨RetSh.none _ _ _, hBW⟩
    case inl =>
      have k6 : W2.cell? ⟨p6, 0, none⟩ = some (.slice VA zl.length VC) := by rw [blk_cell HQ6.out]; rfl
      obtain ⟨hzn, hzd⟩ := HZN.out rfl
      have HZD := Lib.hid hzd
      have HZN2 := Lib.hid hzn
      have HZR : Hid (RS W2 VA zl.length zl) := by
        have := (Kd.S_reads' HZ2.out).2.2
        rw [List.length_map] at this
        exact rs_of_C this
      have hRS2 := Lib.hid (HRS.out.below hBW)
      clear hzn hzd
      go_wp2_with fail
      go_loopw [4, 50] (fun v4 v50 wr => ∃ (k : Nat), k ≤ n ∧ v50 = .int .i64 (k : Int) ∧ Kd.S k52 52 wr W2.heap.size (fun _ => True) v4 ((nextTo (a :: l) zl k).map sI) ∧ Below W2.heap.size W2 wr) (fun _ v50 _ => n - (intOf v50).toNat)
      case atStart => exact ⟨0, by omega, rfl, Kd.S_nil _ _ _ _ _, Below.refl _ _⟩
      case round =>
        obtain ⟨k, hk, rfl, hS, hBr⟩ := hrel
        by_cases hlt : k < n
        · have hRSr := hRS2.out.below hBr
          obtain ⟨b', o', he, hb', hcs⟩ := hRSr.at k hlt
          obtain ⟨rfl, rfl⟩ : b' = b ∧ o' = o := by injection he with he; injection he with e1 e2; exact ⟨e1.symm, e2.symm⟩
          clear he
          have hkl : k < (a :: l).length := by rw [HN.out]; exact hlt
          have hepk := HEP.out _ (List.getElem_mem hkl)
          have hdak := HDA.out _ (List.getElem_mem hkl)
          have hget : (a :: l).getD k ⟨0, 0, 0, 0, []⟩ = (a :: l)[k] := by rw [List.getD_eq_getElem?_getD, List.getElem?_eq_getElem hkl]; rfl
          have hkz : k < zl.length := by rw [HZN2.out]; exact hlt
          have hgetz : zl.getD k ⟨0, 0, 0, 0, []⟩ = zl[k] := by rw [List.getD_eq_getElem?_getD, List.getElem?_eq_getElem hkz]; rfl
          have hdaz := HZD.out _ (List.getElem_mem hkz)
          generalize hs : (a :: l)[k] = s at hcs hepk hdak hget
          have HS2 := Lib.hid hs; clear hs
          have HG := Lib.hid hget
          have HGZ := Lib.hid hgetz
          have HDZ := Lib.hid hdaz
          have HDK := Lib.hid hdak
          clear hget hgetz hdaz hdak
          obtain ⟨e0, e1, e2, e3, As, ns, cs, e4, hds⟩ := hcs
          obtain ⟨hep0, hep1⟩ := hepk
          have hnsl := hds.1
          have HNS := Lib.hid hnsl
          have hns64 : ns ≤ 64 := by have := HDK.out; omega
          clear hnsl hds
          have hlt2 : (k : Int) < (n : Int) := by omega
          have k1r := pw_cell_below hBr k1
          have k6r := pw_cell_below hBr k6
          have hzw : w.heap.size < wr.heap.size := World.block_lt_of_cell? _ _ k1r
          have hzp : p6 < wr.heap.size := World.block_lt_of_cell? _ _ k6r
          go_wp2_with fail
          have hW : ∀ y : World, y = (wr.alloc (.cells #[.int .i64 (k : Int)] 3)).alloc (.cells #[.int .i64 (s.ep + 1), .int .i64 s.ix, .int .i64 s.th, .int .i64 s.mn, .slice As ns cs] 52) →
              Below wr.heap.size wr y ∧ y.cell? ⟨wr.heap.size, 0, none⟩ = some (.int .i64 (k : Int)) ∧ y.heap[wr.heap.size + 1]? = some (.cells #[.int .i64 (s.ep + 1), .int .i64 s.ix, .int .i64 s.th, .int .i64 s.mn, .slice As ns cs] 52 (0, 0)) := by
            rintro y rfl
            refine ⟨balloc (below_alloc1 _ _) _, ?_, ?_⟩
            · rw [cell_old _ _ _ (by simp), cell_new _ _ _ _ _ _ rfl]; rfl
            · have := heap_alloc_new (wr.alloc (.cells #[.int .i64 (k : Int)] 3)) (.cells #[.int .i64 (s.ep + 1), .int .i64 s.ix, .int .i64 s.th, .int .i64 s.mn, .slice As ns cs] 52)
              simpa using this
          generalize hW3 : (wr.alloc (.cells #[.int .i64 (k : Int)] 3)).alloc (.cells #[.int .i64 (s.ep + 1), .int .i64 s.ix, .int .i64 s.th, .int .i64 s.mn, .slice As ns cs] 52) = W3
          obtain ⟨hb3, hq3, hq8⟩ := hW W3 hW3.symm
          clear hW hW3
          refine (columns_u8 54 _ ns (fun at_ => gx (g s.da at_) (g zl[k].da at_)) W3 (by omega) (callf Try.func54 (by kernel_rfl) rfl) (fun at_ W hat hBW3 => ?_)).mono ?_
          · have hBx := bthen hBr (bthen hb3 hBW3)
            have := refresh1_u _ _ _ (some ⟨b', o', none⟩) VA n c zl.length VC k (a :: l) zl at_ W (pw_cell_below (bthen hb3 hBW3) k1r) (pw_cell_below hBW3 hq3) (pw_cell_below (bthen hb3 hBW3) k6r) (hRS2.out.below hBx) (HZR.out.below hBx) hkl hkz (by rw [HS2.out, HNS.out]; exact hat) (by rw [HDZ.out, ← HDK.out, HNS.out]; exact hat)
            rw [HS2.out] at this
            exact this
          rintro e w4 ⟨dv, rfl, hod, hb4⟩
          obtain ⟨DA, DC, rfl, _⟩ := hod.any
          have hB4 := bthen hBr (bthen hb3 hb4)
          have hS4 := Kd.S_elder' (Kd.S_below (Kd.S_elderB hS (wr.heap.size + 1) (by omega)) hb3) (fun k hk => (hod.lt k hk).1) hb4
          have hub : ∀ k_, u4.ownBlock = some k_ → k_ < wr.heap.size := Kd.S_lt hS
          have hq84 := (hb4.block _ (blk_lt hq8)).trans hq8
          have hc84 : w4.cell? ⟨wr.heap.size + 1, 4, none⟩ = some (.slice As ns cs) := by rw [blk_cell hq84]; rfl
          have hf84 : w4.frozen? ⟨wr.heap.size + 1, 4, none⟩ = false := blk_frozen hq84 4
          go_upto_region 16 with (fail)
          have hq85 := blk_set hq84 4 (.slice DA ns DC)
          have hdb : ∀ k_, (Value.slice DA ns DC).ownBlock = some k_ → wr.heap.size + 1 < k_ := fun k_ hk => by
            have h1 := (hod.lt k_ hk).1
            have h2 := blk_lt hq8
            omega
          have hS5 := Kd.S_far (p := ⟨wr.heap.size + 1, 4, none⟩) hS4 (fun k_ hk => hk.1.2) (.slice DA ns DC)
          have hod5 := hod.setOther ⟨wr.heap.size + 1, 4, none⟩ (.slice DA ns DC) (fun e => by have := hdb _ e; dsimp only at this; omega)
          have hb34 := bthen hb3 hb4
          have hb5 : Below wr.heap.size wr (w4.setCell ⟨wr.heap.size + 1, 4, none⟩ (.slice DA ns DC)) := hb34.setCell (by dsimp only; omega) _
          generalize w4.setCell ⟨wr.heap.size + 1, 4, none⟩ (.slice DA ns DC) = w5 at *
          have f0 : w5.cell? ⟨wr.heap.size + 1, 0, none⟩ = some (.int .i64 (s.ep + 1)) := by rw [blk_cell hq85]; rfl
          have f1 : w5.cell? ⟨wr.heap.size + 1, 1, none⟩ = some (.int .i64 s.ix) := by rw [blk_cell hq85]; rfl
          have f2 : w5.cell? ⟨wr.heap.size + 1, 2, none⟩ = some (.int .i64 s.th) := by rw [blk_cell hq85]; rfl
          have f3 : w5.cell? ⟨wr.heap.size + 1, 3, none⟩ = some (.int .i64 s.mn) := by rw [blk_cell hq85]; rfl
          have f4 : w5.cell? ⟨wr.heap.size + 1, 4, none⟩ = some (.slice DA ns DC) := by rw [blk_cell hq85]; rfl
          have hB5 := bthen hBr hb5
          have hM : k52.M w5 W2.heap.size (fun k_ => some k_ = (Value.slice DA ns DC).ownBlock) (sI (nextSh s zl[k])) [.int .i64 (s.ep + 1), .int .i64 s.ix, .int .i64 s.th, .int .i64 s.mn, .slice DA ns DC] := by
            refine k52_mkM _ _ _ (sI (nextSh s zl[k])) (R_of_own (E := 5) (n := ns) ?_ (fun _ h => h.symm))
            show OwnL gv 5 w5 W2.heap.size _ ns ((List.range s.da.length).map fun at_ => gx (g s.da at_) (g zl[k].da at_))
            rw [HNS.out]
            exact hod5.rebase (bthen hBr hb3).size
          have HM := Lib.hid hM
          have HAP : Hid (∀ k_, some k_ = (Value.slice DA ns DC).ownBlock → True ∧ some k_ ≠ u4.ownBlock) := fun k_ hk => ⟨trivial, fun e => by
            have h1 := hdb k_ hk.symm
            have h2 := hub k_ e.symm
            omega⟩
          have HS5 := Lib.hid (Kd.S_mono hS5 (ok' := fun k_ => True ∧ ¬ some k_ = (Value.slice DA ns DC).ownBlock) (fun _ h => ⟨trivial, h.2⟩))
          have hlen : ((nextTo (a :: l) zl k).map sI).length = k := by simp [nextTo]
          have HLEN := Lib.hid hlen
          clear hM hS5 hS4 hod hod5 hub hdb hq84 hq85 hc84 hf84 hlen hS hq3 hq8
          go_wp2_with (at_builtin; refine Kd.S_append k52 (w0 := W2) W2.heap.size rfl (.tmp 68) (.tmp 70) 37 52 (.agg #[(.int .i64 0), (.int .i64 0), (.int .i64 0), (.int .i64 0), (.slice none 0 0)]) 56 rfl slice_sh Try.info52 rfl (by decide) (by omega) u4 ((nextTo (a :: l) zl k).map sI) (sI (nextSh s zl[k])) [.int .i64 (s.ep + 1), .int .i64 s.ix, .int .i64 s.th, .int .i64 s.mn, .slice DA ns DC] (fun _ => True) (fun k_ => some k_ = (Value.slice DA ns DC).ownBlock) rfl rfl HM.out HAP.out (fun _ _ => trivial) HS5.out hB5 hB5.size (by rw [HLEN.out]; omega) ?_; intro v6 w6 hS6 hB6 hg6 hat6; have HS6 := Lib.hid hS6; clear hS6)
          refine ⟨⟨k + 1, by omega, by go_num, ?_, hB6⟩, by simp [intOf]; omega⟩
          rw [nextTo_succ, List.map_append, HG.out, HGZ.out]
          exact HS6.out
        · obtain rfl : k = n := by omega
          go_wp2_with fail
          go_ret2
          exact ⟨⟨_, rfl, Kd.S_lower hS hBW.size⟩, bthen hBW hBr⟩
  refine two_ (i := 5) (j := 19) (Ni := some 32) (Nj := some 6) #[true, true, true, true, true, true, true, true, true, true, true, true, true, true, true, false, false, false, false, false, false, false] #[true, true, true, true, true, false, true, true, true, true, true, true, true, true, true, false, false, false, false, true, false, false] rfl rfl rfl rfl (by kernel_rfl) (by decide) (by decide) (fun K hK => ?_) (fun K hK => ?_)
  · refine Kd.R_make_step (Kd.int .u8) (w0 := w1) w1.heap.size 5 (by rfl) (N := 32) rfl 30 (.tmp 31) (.tmp 31) rfl (a.da.length : Int) rfl rfl slice_u8 (.int .u8 0) 1 Try.info5 rfl (by decide) (by decide) (0 : Int) (ok := fun _ => True) (okp := fun _ => True) rfl (fun _ h => h) trivial (by omega) (by simp; omega) hBd hBd.size ?_
    intro v1 w2 hR2 hb2 hg2 _
    rw [show ((a.da.length : Int)).toNat = a.da.length from by simp, show List.replicate a.da.length (0 : Int) = (List.replicate a.da.length 0#8).map tI from by simp [List.map_replicate, tI]] at hR2
    have hO2 := own_of_R hR2
    rw [List.length_replicate] at hO2
    obtain ⟨ZA, ZC, rfl, hzr⟩ := hO2.rl
    refine hK.out _ _ (HS.out _ hb2) (fun _ => ?_)
    clear hK K
    refine norm_ (a' := ?_) ?_ ?_
    rotate_left
    · show Act.put _ (some 32) _ = _
      simp only [Act.put, List.setIfInBounds_toArray, List.set_cons_zero, List.set_cons_succ]
      rfl
    refine two_ (i := 15) (j := 19) (Ni := some 42) (Nj := some 6) #[true, true, true, true, true, true, true, true, true, true, true, true, true, true, true, true, false, false, false, false, false, false] #[true, true, true, true, true, true, true, true, true, true, true, true, true, true, true, false, false, false, false, true, false, false] rfl rfl rfl rfl (by kernel_rfl) (by decide) (by decide) (fun K hK => ?_) (fun K hK => ?_)
    · refine goes_ Try.func25 (by kernel_rfl) rfl #[.slice ZA a.da.length ZC, .int .i64 0, .int .i64 ((t : Int) + 1), .int .i64 (n : Int), .slice B n2 c2] (by rfl) rfl rfl (by simp [Act.eval]) ?_
      have hsa := fun W hz hr => split_any ZA B a.da.length ZC n2 c2 n t (List.replicate a.da.length 0#8) r W hz hr hc2 hlen64 ht8 hm8 hn2
      simp only [← HZL.out, ← HER.out] at hsa
      refine (hsa _ hzr (HRC.out.below (bthen hB1 hb2))).mono ?_
      clear hsa
      rintro e w3 ⟨⟨zv, rfl, hZ⟩, hb3⟩
      refine ⟨_, rfl, ?_⟩
      have hb13 := bthen hb2 hb3
      refine hK.out _ _ (HS.out _ hb13) (fun _ => ?_)
      clear hK K
      refine norm_ (a' := ?_) ?_ ?_
      rotate_left
      · show Act.put _ (some 42) _ = _
        simp only [Act.put, List.setIfInBounds_toArray, List.set_cons_zero, List.set_cons_succ]
        rfl
      refine pure_ (i := 16) (N := some 26) (v := ?_) (a' := ?_) #[true, true, true, true, true, true, true, true, true, true, true, true, true, true, true, true, true, false, false, false, false, false] rfl rfl (by kernel_rfl) (fun _ _ _ h => h) (Or.inl ⟨by rfl, ?_⟩) ?_ ?_
      rotate_left
      · intro w'
        go_simp
        with_reducible rfl
      rotate_left
      · simp only [Act.put, List.setIfInBounds_toArray, List.set_cons_zero, List.set_cons_succ]
        rfl
      refine pure_ (i := 17) (N := some 43) (v := ?_) (a' := ?_) #[true, true, true, true, true, true, true, true, true, true, true, true, true, true, true, true, true, true, false, false, false, false] rfl rfl (by kernel_rfl) (fun _ _ _ h => h) (Or.inl ⟨by rfl, ?_⟩) ?_ ?_
      rotate_left
      · intro w'
        go_simp
        with_reducible rfl
      rotate_left
      · simp only [Act.put, List.setIfInBounds_toArray, List.set_cons_zero, List.set_cons_succ]
        rfl
      refine pure_ (i := 18) (N := some 44) (v := ?_) (a' := ?_) #[true, true, true, true, true, true, true, true, true, true, true, true, true, true, true, true, true, true, true, false, false, false] rfl rfl (by kernel_rfl) (fun _ _ _ h => h) (Or.inl ⟨by rfl, ?_⟩) ?_ ?_
      rotate_left
      · intro w'
        go_simp
        with_reducible rfl
      rotate_left
      · simp only [Act.put, List.setIfInBounds_toArray, List.set_cons_zero, List.set_cons_succ]
        rfl
      refine one_ (i := 19) (N := some 6) #[true, true, true, true, true, true, true, true, true, true, true, true, true, true, true, true, true, true, true, true, false, false] rfl rfl (by kernel_rfl) (by decide) (fun K hK => ?_)
      refine box_step (by rfl) (N := 6) rfl (cs := #[.slice none 0 0]) (t := 37) (by first | (go_simp; done) | (go_simp; rfl)) ?_
      intro g6 hg6 w4 hblk hb4
      have hb14 := bthen hb13 hb4
      refine hK.out _ _ (HS.out _ hb14) (fun _ => ?_)
      clear hK K
      refine norm_ (a' := ?_) ?_ ?_
      rotate_left
      · show Act.put _ (some 6) _ = _
        simp only [Act.put, List.setIfInBounds_toArray, List.set_cons_zero, List.set_cons_succ]
        rfl
      exact hJ ((ZA, ZC), zv, g6) w4 ⟨Kd.S_lower (Kd.S_below hZ hb4) hb2.size, hblk, by rw [hg6]; exact hb13.size, hb14⟩
    · refine box_step (by rfl) (N := 6) rfl (cs := #[.slice none 0 0]) (t := 37) (by first | (go_simp; done) | (go_simp; rfl)) ?_
      intro g6 hg6 w4 hblk hb4
      have hb14 := bthen hb2 hb4
      refine hK.out _ _ (HS.out _ hb14) (fun _ => ?_)
      clear hK K
      refine norm_ (a' := ?_) ?_ ?_
      rotate_left
      · show Act.put _ (some 6) _ = _
        simp only [Act.put, List.setIfInBounds_toArray, List.set_cons_zero, List.set_cons_succ]
        rfl
      refine one_ (i := 15) (N := some 42) #[true, true, true, true, true, true, true, true, true, true, true, true, true, true, true, true, false, false, false, true, false, false] rfl rfl (by kernel_rfl) (by decide) (fun K hK => ?_)
      refine goes_ Try.func25 (by kernel_rfl) rfl #[.slice ZA a.da.length ZC, .int .i64 0, .int .i64 ((t : Int) + 1), .int .i64 (n : Int), .slice B n2 c2] (by rfl) rfl rfl (by simp [Act.eval]) ?_
      have hsa := fun W hz hr => split_any ZA B a.da.length ZC n2 c2 n t (List.replicate a.da.length 0#8) r W hz hr hc2 hlen64 ht8 hm8 hn2
      simp only [← HZL.out, ← HER.out] at hsa
      refine (hsa _ (hzr.below hb4) (HRC.out.below (bthen hB1 hb14))).mono ?_
      clear hsa
      rintro e w3 ⟨⟨zv, rfl, hZ⟩, hb3⟩
      refine ⟨_, rfl, ?_⟩
      have hb13 := bthen hb14 hb3
      refine hK.out _ _ (HS.out _ hb13) (fun _ => ?_)
      clear hK K
      refine norm_ (a' := ?_) ?_ ?_
      rotate_left
      · show Act.put _ (some 42) _ = _
        simp only [Act.put, List.setIfInBounds_toArray, List.set_cons_zero, List.set_cons_succ]
        rfl
      refine pure_ (i := 16) (N := some 26) (v := ?_) (a' := ?_) #[true, true, true, true, true, true, true, true, true, true, true, true, true, true, true, true, true, false, false, true, false, false] rfl rfl (by kernel_rfl) (fun _ _ _ h => h) (Or.inl ⟨by rfl, ?_⟩) ?_ ?_
      rotate_left
      · intro w'
        go_simp
        with_reducible rfl
      rotate_left
      · simp only [Act.put, List.setIfInBounds_toArray, List.set_cons_zero, List.set_cons_succ]
        rfl
      refine pure_ (i := 17) (N := some 43) (v := ?_) (a' := ?_) #[true, true, true, true, true, true, true, true, true, true, true, true, true, true, true, true, true, true, false, true, false, false] rfl rfl (by kernel_rfl) (fun _ _ _ h => h) (Or.inl ⟨by rfl, ?_⟩) ?_ ?_
      rotate_left
      · intro w'
        go_simp
        with_reducible rfl
      rotate_left
      · simp only [Act.put, List.setIfInBounds_toArray, List.set_cons_zero, List.set_cons_succ]
        rfl
      refine pure_ (i := 18) (N := some 44) (v := ?_) (a' := ?_) #[true, true, true, true, true, true, true, true, true, true, true, true, true, true, true, true, true, true, true, true, false, false] rfl rfl (by kernel_rfl) (fun _ _ _ h => h) (Or.inl ⟨by rfl, ?_⟩) ?_ ?_
      rotate_left
      · intro w'
        go_simp
        with_reducible rfl
      rotate_left
      · simp only [Act.put, List.setIfInBounds_toArray, List.set_cons_zero, List.set_cons_succ]
        rfl
      exact hJ ((ZA, ZC), zv, g6) w3 ⟨Kd.S_lower hZ hb14.size, (hb3.block _ (blk_lt hblk)).trans hblk, by rw [hg6]; exact hb2.size, hb13⟩
  · refine box_step (by rfl) (N := 6) rfl (cs := #[.slice none 0 0]) (t := 37) (by first | (go_simp; done) | (go_simp; rfl)) ?_
    intro g6 hg6 w4 hblk hb4
    have hb14 := bthen hBd hb4
    refine hK.out _ _ (HS.out _ hb14) (fun _ => ?_)
    clear hK K
    refine norm_ (a' := ?_) ?_ ?_
    rotate_left
    · show Act.put _ (some 6) _ = _
      simp only [Act.put, List.setIfInBounds_toArray, List.set_cons_zero, List.set_cons_succ]
      rfl
    refine one_ (i := 5) (N := some 32) #[true, true, true, true, true, true, true, true, true, true, true, true, true, true, true, false, false, false, false, true, false, false] rfl rfl (by kernel_rfl) (by decide) (fun K hK => ?_)
    refine Kd.R_make_step (Kd.int .u8) (w0 := w1) w1.heap.size 5 (by rfl) (N := 32) rfl 30 (.tmp 31) (.tmp 31) rfl (a.da.length : Int) rfl rfl slice_u8 (.int .u8 0) 1 Try.info5 rfl (by decide) (by decide) (0 : Int) (ok := fun _ => True) (okp := fun _ => True) rfl (fun _ h => h) trivial (by omega) (by simp; omega) hb14 hb14.size ?_
    intro v1 w2 hR2 hb2 hg2 _
    rw [show ((a.da.length : Int)).toNat = a.da.length from by simp, show List.replicate a.da.length (0 : Int) = (List.replicate a.da.length 0#8).map tI from by simp [List.map_replicate, tI]] at hR2
    have hO2 := own_of_R hR2
    rw [List.length_replicate] at hO2
    obtain ⟨ZA, ZC, rfl, hzr⟩ := hO2.rl
    refine hK.out _ _ (HS.out _ hb2) (fun _ => ?_)
    clear hK K
    refine norm_ (a' := ?_) ?_ ?_
    rotate_left
    · show Act.put _ (some 32) _ = _
      simp only [Act.put, List.setIfInBounds_toArray, List.set_cons_zero, List.set_cons_succ]
      rfl
    refine one_ (i := 15) (N := some 42) #[true, true, true, true, true, true, true, true, true, true, true, true, true, true, true, true, false, false, false, true, false, false] rfl rfl (by kernel_rfl) (by decide) (fun K hK => ?_)
    refine goes_ Try.func25 (by kernel_rfl) rfl #[.slice ZA a.da.length ZC, .int .i64 0, .int .i64 ((t : Int) + 1), .int .i64 (n : Int), .slice B n2 c2] (by rfl) rfl rfl (by simp [Act.eval]) ?_
    have hsa := fun W hz hr => split_any ZA B a.da.length ZC n2 c2 n t (List.replicate a.da.length 0#8) r W hz hr hc2 hlen64 ht8 hm8 hn2
    simp only [← HZL.out, ← HER.out] at hsa
    refine (hsa _ hzr (HRC.out.below (bthen hB1 hb2))).mono ?_
    clear hsa
    rintro e w3 ⟨⟨zv, rfl, hZ⟩, hb3⟩
    refine ⟨_, rfl, ?_⟩
    have hb13 := bthen hb2 hb3
    refine hK.out _ _ (HS.out _ hb13) (fun _ => ?_)
    clear hK K
    refine norm_ (a' := ?_) ?_ ?_
    rotate_left
    · show Act.put _ (some 42) _ = _
      simp only [Act.put, List.setIfInBounds_toArray, List.set_cons_zero, List.set_cons_succ]
      rfl
    refine pure_ (i := 16) (N := some 26) (v := ?_) (a' := ?_) #[true, true, true, true, true, true, true, true, true, true, true, true, true, true, true, true, true, false, false, true, false, false] rfl rfl (by kernel_rfl) (fun _ _ _ h => h) (Or.inl ⟨by rfl, ?_⟩) ?_ ?_
    rotate_left
    · intro w'
      go_simp
      with_reducible rfl
    rotate_left
    · simp only [Act.put, List.setIfInBounds_toArray, List.set_cons_zero, List.set_cons_succ]
      rfl
    refine pure_ (i := 17) (N := some 43) (v := ?_) (a' := ?_) #[true, true, true, true, true, true, true, true, true, true, true, true, true, true, true, true, true, true, false, true, false, false] rfl rfl (by kernel_rfl) (fun _ _ _ h => h) (Or.inl ⟨by rfl, ?_⟩) ?_ ?_
    rotate_left
    · intro w'
      go_simp
      with_reducible rfl
    rotate_left
    · simp only [Act.put, List.setIfInBounds_toArray, List.set_cons_zero, List.set_cons_succ]
      rfl
    refine pure_ (i := 18) (N := some 44) (v := ?_) (a' := ?_) #[true, true, true, true, true, true, true, true, true, true, true, true, true, true, true, true, true, true, true, true, false, false] rfl rfl (by kernel_rfl) (fun _ _ _ h => h) (Or.inl ⟨by rfl, ?_⟩) ?_ ?_
    rotate_left
    · intro w'
      go_simp
      with_reducible rfl
    rotate_left
    · simp only [Act.put, List.setIfInBounds_toArray, List.set_cons_zero, List.set_cons_succ]
      rfl
    have hblk2 := blk_grown hblk hg2 (by simp)
    exact hJ ((ZA, ZC), zv, g6) w3 ⟨Kd.S_lower hZ hb2.size, (hb3.block _ (blk_lt hblk2)).trans hblk2, by rw [hg6]; exact hBd.size, hb13⟩
theorem refresh_u (A B : Option Addr) (n c n2 c2 : Nat) (L : List Sh) (r : List G) (w : World) (hC : Kd.C k52 w A n (L.map sI)) (hcc : n ≤ c) (hr : RL gv w B n2 r) (hc2 : n2 ≤ c2) (hn2 : n2 ≤ 100000) :
    Calls Try.prog 34 #[.slice A n c, .slice B n2 c2] w fun e w' => RetSh e w' w.heap.size (refreshR L r) (refreshE L r) ∧ Below w.heap.size w w' := by
  by_cases hck : checkR L = 0
  case neg => exact refresh_bad1 A B n c n2 c2 L r w hC hck
  obtain ⟨a, l, rfl, hal, _⟩ := check0 hck
  by_cases h1 : n ≠ mnN (a :: l)
  · exact refresh_bad2 A B n c n2 c2 a l r w hC hck hal (.inl h1)
  by_cases h2 : epN (a :: l) = 1048576
  · exact refresh_bad2 A B n c n2 c2 a l r w hC hck hal (.inr h2)
  exact refresh_rest A B n c n2 c2 a l r w hC hcc hr hc2 hn2 hck hal (Decidable.of_not_not h1) h2
end Go.Proofs.Ytillfbohengpaaa
end
section
namespace Go.Proofs.Ytillfbohengpaaa.PA
open Go.RowKit Go.Proofs.YtillfbohengpaaaW.PrintWords Go.Proofs.YtillfbohengpaaaW.PrintLast Go.Proofs.YtillfbohengpaaaW.PrintMore
attribute [local go_sem] max2_int min2_int max_two min_two max_three min_three max_four min_four   -- for this text's walks alone
set_option linter.unusedVariables false
set_option linter.unusedSimpArgs false
def shares_Check.f (l0 : List S52) : Option Int := if okS l0 = true then some (checkR (l0.map shG)) else none
theorem shares_Check.calls (A0 : Option Addr) (c0 : Nat) (l0 : List S52) (r : Int) (w : World) (hr0 : Kd.C k52 w A0 l0.length l0) (hc0 : l0.length ≤ c0) (h : shares_Check.f l0 = some r) :
    Calls Try.prog 27 #[.slice A0 l0.length c0] w fun e w' => e = .returned (.int .i64 r) ∧ Below w.heap.size w w' := by
  unfold shares_Check.f at h
  split at h
  · rename_i ho
    obtain ⟨L, rfl⟩ := ex_okS ho
    rw [shG_map] at h
    injection h with h
    subst h
    exact check_u (rs_of_C hr0)
  · cases h
end Go.Proofs.Ytillfbohengpaaa.PA
end
section
namespace Go.Proofs.Ytillfbohengpaaa.PA
open Go.RowKit Go.Proofs.YtillfbohengpaaaW.PrintWords Go.Proofs.YtillfbohengpaaaW.PrintLast Go.Proofs.YtillfbohengpaaaW.PrintMore
attribute [local go_sem] max2_int min2_int max_two min_two max_three min_three max_four min_four   -- for this text's walks alone
set_option linter.unusedVariables false
set_option linter.unusedSimpArgs false
open Gf in
def field_Coefficients.f (l0 l1 : List Int) : Option (List Int × Int) := if isB l0 = true ∧ isB l1 = true ∧ l0.length ≤ 1000 then
    (if (l0.map gI).Nodup ∧ l0.length = l1.length then some ((coefs (l0.map gI) (l1.map gI)).map tI, 0) else some ([], 1)) else none
theorem field_Coefficients.calls (A0 : Option Addr) (c0 : Nat) (l0 : List Int) (A1 : Option Addr) (c1 : Nat) (l1 : List Int) (r1 : List Int) (r2 : Int) (w : World) (hr0 : Kd.C (Kd.int .u8) w A0 l0.length l0) (hc0 : l0.length ≤ c0) (hr1 : Kd.C (Kd.int .u8) w A1 l1.length l1) (hc1 : l1.length ≤ c1) (h : field_Coefficients.f l0 l1 = some (r1, r2)) :
    Calls Try.prog 20 #[.slice A0 l0.length c0, .slice A1 l1.length c1] w fun e w' => ∃ v0_ : Value, e = .returned (.tuple #[v0_, .int .i64 r2]) ∧ Kd.R (Kd.int .u8) 5 w' w.heap.size (fun _ => True) v0_ r1 ∧ Below w.heap.size w w' := by
  unfold field_Coefficients.f at h
  split at h
  case isFalse => cases h
  rename_i ho
  obtain ⟨h0, h1, hn⟩ := ho
  obtain ⟨xs, rfl⟩ := ex_isB h0
  obtain ⟨ys, rfl⟩ := ex_isB h1
  rw [gI_map, gI_map] at h
  by_cases hd : xs.Nodup ∧ (xs.map tI).length = (ys.map tI).length
  · rw [if_pos hd] at h
    injection h with h
    injection h with e1 e2
    subst e1 e2
    have hy := rl_of_C hr1
    rw [← hd.2] at hy ⊢
    refine (coefs_ok A0 A1 c0 c1 _ xs ys w (rl_of_C hr0) hy hd.1 hn).mono ?_
    rintro e w' ⟨v, rfl, hs, hb⟩
    exact ⟨v, rfl, R_of_own hs (fun _ _ => trivial), hb⟩
  · rw [if_neg hd] at h
    injection h with h
    injection h with e1 e2
    subst e1 e2
    refine (coefs_bad A0 A1 c0 c1 _ _ xs ys w (rl_of_C hr0) (rl_of_C hr1) hd).mono ?_
    rintro e w' ⟨rfl, hb⟩
    exact ⟨_, rfl, Kd.R_nil _ _ _ _ _, hb⟩
end Go.Proofs.Ytillfbohengpaaa.PA
end
section
namespace Go.Proofs.Ytillfbohengpaaa.PA
open Go.RowKit Go.Proofs.YtillfbohengpaaaW.PrintWords Go.Proofs.YtillfbohengpaaaW.PrintLast Go.Proofs.YtillfbohengpaaaW.PrintMore
attribute [local go_sem] max2_int min2_int max_two min_two max_three min_three max_four min_four   -- for this text's walks alone
set_option linter.unusedVariables false
set_option linter.unusedSimpArgs false
mutual
def shares_Explain.l0 : Nat → List (S52) → List Int → Int → List Int → Int → Int → Option (List Int × Int)
  | 0, _, _, _, _, _, _ => none
  | k + 1, x0, x4, x6, x35, x36, x37 => if x37 < x36 then (if 0 ≤ x37 then (if x37 < (x35.length : Int) then ((shares_points.f k x0 x37).bind fun bt213 => (if bt213.1.length < 140737488355328 then (if bt213.2.length < 140737488355328 then (shares_Explain.l1 k x0 x4 x6 (bt213.1 ++ [0]) (bt213.2 ++ [rd x35 x37]) 9 x35 x36 x37) else (none)) else (none))) else (none)) else (none)) else (some (x4, 0))
def shares_Explain.l1 : Nat → List (S52) → List Int → Int → List Int → List Int → Int → List Int → Int → Int → Option (List Int × Int)
  | 0, _, _, _, _, _, _, _, _, _ => none
  | k + 1, x0, x4, x6, x9, x10, x11, x35, x36, x37 => if (x9.length : Int) < x6 then (if x9.length < 140737488355328 then (if x10.length < 140737488355328 then (shares_Explain.l1 k x0 x4 x6 (x9 ++ [x11]) (x10 ++ [0]) ((x11 + 1) % 256) x35 x36 x37) else (none)) else (none)) else ((field_Coefficients.f x9 x10).bind fun bt231 => (if 1 ≤ (bt231.1.length : Int) then ((some (bt231.1.drop 1 : List Int)).bind fun y235 => (if x4.length + y235.length < 140737488355328 then (shares_Explain.l0 k x0 (x4 ++ y235) x6 x35 x36 (wrap64 (x37 + 1))) else (none))) else (none)))
end
def shares_Explain.f (k : Nat) (l0 : List (S52)) (l1 : List Int) : Option (List Int × Int) := (shares_Check.f l0).bind fun t209 => (if t209 = 0 then (if 0 < (l0.length : Int) then (if (l0.length : Int) ≥ ((rd_T52 l0 0).f2) then (some (([] : List Int), 80)) else (if (l1.length : Int) = (((rd_T52 l0 0).f4).length : Int) then (shares_Explain.l0 k l0 ([] : List Int) ((rd_T52 l0 0).f2) l1 (l1.length : Int) 0) else (some (([] : List Int), 1)))) else (none)) else (some (([] : List Int), t209)))
theorem shares_Explain.mono_l : ∀ k, (∀ y0 y1 y2 y3 y4 y5, LeO (shares_Explain.l0 k y0 y1 y2 y3 y4 y5) (shares_Explain.l0 (k + 1) y0 y1 y2 y3 y4 y5)) ∧ (∀ y0 y1 y2 y3 y4 y5 y6 y7 y8, LeO (shares_Explain.l1 k y0 y1 y2 y3 y4 y5 y6 y7 y8) (shares_Explain.l1 (k + 1) y0 y1 y2 y3 y4 y5 y6 y7 y8))
  | 0 => ⟨fun _ _ _ _ _ _ r h => by simp [shares_Explain.l0] at h, fun _ _ _ _ _ _ _ _ _ r h => by simp [shares_Explain.l1] at h⟩
  | k + 1 => by
    obtain ⟨ih0, ih1⟩ := shares_Explain.mono_l k
    refine ⟨?_, ?_⟩
    · intro y0 y1 y2 y3 y4 y5
      unfold shares_Explain.l0
      repeat' first
      | (with_reducible exact ih0 _ _ _ _ _ _)
      | (with_reducible exact ih1 _ _ _ _ _ _ _ _ _)
      | (with_reducible exact shares_points.mono _ _ _)
      | (with_reducible exact LeO.refl _)
      | (with_reducible exact LeO.none _)
      | (with_reducible refine LeO.ite ?_ ?_)
      | (with_reducible refine LeO.bind ?_ (fun _ => ?_))
      | exact ih0 _ _ _ _ _ _
      | exact ih1 _ _ _ _ _ _ _ _ _
      | exact shares_points.mono _ _ _
      | exact LeO.none _
      | refine LeO.ite ?_ ?_
      | refine LeO.bind ?_ (fun _ => ?_)
    · intro y0 y1 y2 y3 y4 y5 y6 y7 y8
      unfold shares_Explain.l1
      repeat' first
      | (with_reducible exact ih0 _ _ _ _ _ _)
      | (with_reducible exact ih1 _ _ _ _ _ _ _ _ _)
      | (with_reducible exact shares_points.mono _ _ _)
      | (with_reducible exact LeO.refl _)
      | (with_reducible exact LeO.none _)
      | (with_reducible refine LeO.ite ?_ ?_)
      | (with_reducible refine LeO.bind ?_ (fun _ => ?_))
      | exact ih0 _ _ _ _ _ _
      | exact ih1 _ _ _ _ _ _ _ _ _
      | exact shares_points.mono _ _ _
      | exact LeO.none _
      | refine LeO.ite ?_ ?_
      | refine LeO.bind ?_ (fun _ => ?_)
theorem shares_Explain.mono : ∀ a0 a1 k, LeO (shares_Explain.f k a0 a1) (shares_Explain.f (k + 1) a0 a1) := by
  intro a0 a1 k
  obtain ⟨ih0, ih1⟩ := shares_Explain.mono_l k
  unfold shares_Explain.f
  repeat' first
      | (with_reducible exact ih0 _ _ _ _ _ _)
      | (with_reducible exact ih1 _ _ _ _ _ _ _ _ _)
      | (with_reducible exact shares_points.mono _ _ _)
      | (with_reducible exact LeO.refl _)
      | (with_reducible exact LeO.none _)
      | (with_reducible refine LeO.ite ?_ ?_)
      | (with_reducible refine LeO.bind ?_ (fun _ => ?_))
      | exact ih0 _ _ _ _ _ _
      | exact ih1 _ _ _ _ _ _ _ _ _
      | exact shares_points.mono _ _ _
      | exact LeO.none _
      | refine LeO.ite ?_ ?_
      | refine LeO.bind ?_ (fun _ => ?_)
set_option maxHeartbeats 8000000 in
set_option maxRecDepth 100000 in
theorem shares_Explain.calls (k : Nat) (A0 : Option Addr) (c0 : Nat) (l0 : List (S52)) (A1 : Option Addr) (c1 : Nat) (l1 : List Int) (r1 : List Int) (r2 : Int) (w : World) (hr0 : Kd.C k52 w A0 l0.length l0) (hc0 : l0.length ≤ c0) (hr1 : Kd.C (Kd.int .u8) w A1 l1.length l1) (hc1 : l1.length ≤ c1) (h : shares_Explain.f k l0 l1 = some (r1, r2)) :
    Calls Try.prog 32 #[.slice A0 l0.length c0, .slice A1 l1.length c1] w fun e w' => ∃ v0_ : Value, e = .returned (.tuple #[v0_, .int .i64 r2]) ∧ Kd.R (Kd.int .u8) 5 w' w.heap.size (fun _ => True) v0_ r1 ∧ Below w.heap.size w w' := by
  have HR0 := Aside0.mk hr0
  have HC0 := Aside0.mk hc0
  clear hr0 hc0
  have HR1 := Aside0.mk hr1
  have HC1 := Aside0.mk hc1
  clear hr1 hc1
  have HB := Aside0.mk (Below.refl w.heap.size w)
  have H : ((shares_Check.f l0).bind fun t209 => (if t209 = 0 then (if 0 < (l0.length : Int) then (if (l0.length : Int) ≥ ((rd_T52 l0 0).f2) then (some (([] : List Int), 80)) else (if (l1.length : Int) = (((rd_T52 l0 0).f4).length : Int) then (shares_Explain.l0 k l0 ([] : List Int) ((rd_T52 l0 0).f2) l1 (l1.length : Int) 0) else (some (([] : List Int), 1)))) else (none)) else (some (([] : List Int), t209)))) = some (r1, r2) := h
  clear h
  replace H := Option.bind_eq_some_iff.mp H
  obtain ⟨t209, A30, H⟩ := H
  replace H : (if t209 = 0 then (if 0 < (l0.length : Int) then (if (l0.length : Int) ≥ ((rd_T52 l0 0).f2) then (some (([] : List Int), 80)) else (if (l1.length : Int) = (((rd_T52 l0 0).f4).length : Int) then (shares_Explain.l0 k l0 ([] : List Int) ((rd_T52 l0 0).f2) l1 (l1.length : Int) 0) else (some (([] : List Int), 1)))) else (none)) else (some (([] : List Int), t209))) = some (r1, r2) := H
  have A3 := Aside0.mk A30
  clear A30
  by_cases c4 : t209 = 0
  · rw [if_pos c4] at H
    have c4b0 : (t209 == 0) = true := beq_iff_eq.mpr c4
    have c4b1 : (t209 != 0) = false := bne_eq_false_iff_eq.mpr c4
    clear c4
    by_cases c5 : 0 < (l0.length : Int)
    · rw [if_pos c5] at H
      have c5b0 : decide (0 < (l0.length : Int)) = true := decide_eq_true c5
      have c5b1 : decide (0 < l0.length) = true := decide_eq_true (by omega)
      clear c5
      by_cases c6 : (l0.length : Int) ≥ ((rd_T52 l0 0).f2)
      · rw [if_pos c6] at H
        have c6b0 : decide (((rd_T52 l0 0).f2) ≤ (l0.length : Int)) = true := decide_eq_true c6
        clear c6
        simp only [Option.some.injEq, Prod.mk.injEq] at H
        obtain ⟨rfl, rfl⟩ := H
        go_enter Try.func32, Try.ntmps32
        go_wp2_with (first | ((with_reducible refine gate_callee (f := 27) rfl ?_); refine goesL_ (some 15) rfl rfl Try.func27 (by kernel_rfl) rfl #[.slice A0 l0.length c0] rfl (by (try simp only [List.map_toArray, List.map_cons, List.map_nil]); first | done | rfl | (simp only [List.length_drop, List.length_take]; rfl)) ?_; (with_reducible refine (shares_Check.calls _ _ l0 t209 _ ?side1 ?side2 A3.out).mono ?_); (case side1 => repeat (first | exact HR0.out | (with_reducible refine Kd.C_alloc ?_ _) | (with_reducible refine Kd.C_drewN ?_ _) | (with_reducible refine Kd.C_drew ?_))); (case side2 => exact HC0.out); rintro e w7 ⟨rfl, hb⟩; refine ⟨_, rfl, ?_⟩; have n0_ := Aside0.mk (below_step (by repeat (first | (with_reducible first | exact HB.out | apply below_alloc | apply pw_below_drewN | apply below_drew1) | exact HB.out)) hb); clear HB; have HB := n0_; clear n0_; (try clear hb); (try clear hb2); (try clear hk); (try clear hi); have p210 : 0 ≤ (0 : Int) := (by omega); have q210 : 0 < (l0.length : Int) := of_decide_eq_true (by first | (with_reducible assumption) | assumption); obtain ⟨ad210, A210_4, c210_4, e210, hx210_0, hx210_1, hx210_2, hx210_3, hx210_4, hl210_4, hi210_4⟩ := at_T52 HR0.out 0 p210 q210; cases e210; have qi210 : (0 < l0.length) = True := eq_true (by omega); (try rw [show ((0 : Int)).toNat = 0 from rfl] at hx210_0); (try rw [show 0 * 5 = 0 from rfl] at hx210_0); (try rw [Addr.add_zero'] at hx210_0); (try rw [show ((0 : Int)).toNat = 0 from rfl] at hx210_1); (try rw [show 0 * 5 = 0 from rfl] at hx210_1); (try rw [Addr.add_zero'] at hx210_1); (try rw [show ((0 : Int)).toNat = 0 from rfl] at hx210_2); (try rw [show 0 * 5 = 0 from rfl] at hx210_2); (try rw [Addr.add_zero'] at hx210_2); (try rw [show ((0 : Int)).toNat = 0 from rfl] at hx210_3); (try rw [show 0 * 5 = 0 from rfl] at hx210_3); (try rw [Addr.add_zero'] at hx210_3); (try rw [show ((0 : Int)).toNat = 0 from rfl] at hx210_4); (try rw [show 0 * 5 = 0 from rfl] at hx210_4); (try rw [Addr.add_zero'] at hx210_4); replace hx210_0 := (HB.out.cell (World.block_lt_of_cell? w _ hx210_0)).trans hx210_0; replace hx210_1 := (HB.out.cell (World.block_lt_of_cell? w _ hx210_1)).trans hx210_1; replace hx210_2 := (HB.out.cell (World.block_lt_of_cell? w _ hx210_2)).trans hx210_2; replace hx210_3 := (HB.out.cell (World.block_lt_of_cell? w _ hx210_3)).trans hx210_3; replace hx210_4 := (HB.out.cell (World.block_lt_of_cell? w _ hx210_4)).trans hx210_4; have HR210_4 := Aside0.mk hi210_4; have HC210_4 := Aside0.mk hl210_4; clear hi210_4 hl210_4; replace p210 := eq_true p210; replace q210 := eq_true q210))
        go_ret2
        exact ⟨_, by first | rfl | (simp [errW_none, errW_some] <;> rfl) | (simp [*, errW_none, errW_some] <;> rfl), by first | exact Kd.R_nil _ _ _ _ _ | exact Kd.N_nil _ _ _ _ _ | exact Kd.V_nil _ _ _ _ _ | exact Kd.Q_nil _ _ _ _ _ | exact Kd.S_nil _ _ _ _ _, by repeat (first | (with_reducible first | exact HB.out | apply below_alloc | apply pw_below_drewN | apply below_drew1) | exact HB.out)⟩
      · rw [if_neg c6] at H
        have c6b0 : decide (((rd_T52 l0 0).f2) ≤ (l0.length : Int)) = false := decide_eq_false c6
        clear c6
        by_cases c8 : (l1.length : Int) = (((rd_T52 l0 0).f4).length : Int)
        · rw [if_pos c8] at H
          have c8b0 : ((l1.length : Int) == (((rd_T52 l0 0).f4).length : Int)) = true := beq_iff_eq.mpr c8
          have c8b1 : ((l1.length : Int) != (((rd_T52 l0 0).f4).length : Int)) = false := bne_eq_false_iff_eq.mpr c8
          have c8b2 : (l1.length == ((rd_T52 l0 0).f4).length) = true := by first | simpa using c8 | (simp at c8 ⊢; omega)
          clear c8
          have H' := Aside0.mk H
          clear H
          go_enter Try.func32, Try.ntmps32
          go_wp2_with (first | ((with_reducible refine gate_callee (f := 27) rfl ?_); refine goesL_ (some 15) rfl rfl Try.func27 (by kernel_rfl) rfl #[.slice A0 l0.length c0] rfl (by (try simp only [List.map_toArray, List.map_cons, List.map_nil]); first | done | rfl | (simp only [List.length_drop, List.length_take]; rfl)) ?_; (with_reducible refine (shares_Check.calls _ _ l0 t209 _ ?side1 ?side2 A3.out).mono ?_); (case side1 => repeat (first | exact HR0.out | (with_reducible refine Kd.C_alloc ?_ _) | (with_reducible refine Kd.C_drewN ?_ _) | (with_reducible refine Kd.C_drew ?_))); (case side2 => exact HC0.out); rintro e w9 ⟨rfl, hb⟩; refine ⟨_, rfl, ?_⟩; have n0_ := Aside0.mk (below_step (by repeat (first | (with_reducible first | exact HB.out | apply below_alloc | apply pw_below_drewN | apply below_drew1) | exact HB.out)) hb); clear HB; have HB := n0_; clear n0_; (try clear hb); (try clear hb2); (try clear hk); (try clear hi); have p210 : 0 ≤ (0 : Int) := (by omega); have q210 : 0 < (l0.length : Int) := of_decide_eq_true (by first | (with_reducible assumption) | assumption); obtain ⟨ad210, A210_4, c210_4, e210, hx210_0, hx210_1, hx210_2, hx210_3, hx210_4, hl210_4, hi210_4⟩ := at_T52 HR0.out 0 p210 q210; cases e210; have qi210 : (0 < l0.length) = True := eq_true (by omega); (try rw [show ((0 : Int)).toNat = 0 from rfl] at hx210_0); (try rw [show 0 * 5 = 0 from rfl] at hx210_0); (try rw [Addr.add_zero'] at hx210_0); (try rw [show ((0 : Int)).toNat = 0 from rfl] at hx210_1); (try rw [show 0 * 5 = 0 from rfl] at hx210_1); (try rw [Addr.add_zero'] at hx210_1); (try rw [show ((0 : Int)).toNat = 0 from rfl] at hx210_2); (try rw [show 0 * 5 = 0 from rfl] at hx210_2); (try rw [Addr.add_zero'] at hx210_2); (try rw [show ((0 : Int)).toNat = 0 from rfl] at hx210_3); (try rw [show 0 * 5 = 0 from rfl] at hx210_3); (try rw [Addr.add_zero'] at hx210_3); (try rw [show ((0 : Int)).toNat = 0 from rfl] at hx210_4); (try rw [show 0 * 5 = 0 from rfl] at hx210_4); (try rw [Addr.add_zero'] at hx210_4); replace hx210_0 := (HB.out.cell (World.block_lt_of_cell? w _ hx210_0)).trans hx210_0; replace hx210_1 := (HB.out.cell (World.block_lt_of_cell? w _ hx210_1)).trans hx210_1; replace hx210_2 := (HB.out.cell (World.block_lt_of_cell? w _ hx210_2)).trans hx210_2; replace hx210_3 := (HB.out.cell (World.block_lt_of_cell? w _ hx210_3)).trans hx210_3; replace hx210_4 := (HB.out.cell (World.block_lt_of_cell? w _ hx210_4)).trans hx210_4; have HR210_4 := Aside0.mk hi210_4; have HC210_4 := Aside0.mk hl210_4; clear hi210_4 hl210_4; replace p210 := eq_true p210; replace q210 := eq_true q210; have p211 : 0 ≤ (0 : Int) := (by omega); have q211 : 0 < (l0.length : Int) := of_decide_eq_true (by first | (with_reducible assumption) | assumption); obtain ⟨ad211, A211_4, c211_4, e211, hx211_0, hx211_1, hx211_2, hx211_3, hx211_4, hl211_4, hi211_4⟩ := at_T52 HR0.out 0 p211 q211; obtain rfl : ad210 = ad211 := (by injection e211); have qi211 : (0 < l0.length) = True := eq_true (by omega); (try rw [show ((0 : Int)).toNat = 0 from rfl] at hx211_0); (try rw [show 0 * 5 = 0 from rfl] at hx211_0); (try rw [Addr.add_zero'] at hx211_0); (try rw [show ((0 : Int)).toNat = 0 from rfl] at hx211_1); (try rw [show 0 * 5 = 0 from rfl] at hx211_1); (try rw [Addr.add_zero'] at hx211_1); (try rw [show ((0 : Int)).toNat = 0 from rfl] at hx211_2); (try rw [show 0 * 5 = 0 from rfl] at hx211_2); (try rw [Addr.add_zero'] at hx211_2); (try rw [show ((0 : Int)).toNat = 0 from rfl] at hx211_3); (try rw [show 0 * 5 = 0 from rfl] at hx211_3); (try rw [Addr.add_zero'] at hx211_3); (try rw [show ((0 : Int)).toNat = 0 from rfl] at hx211_4); (try rw [show 0 * 5 = 0 from rfl] at hx211_4); (try rw [Addr.add_zero'] at hx211_4); replace hx211_0 := (HB.out.cell (World.block_lt_of_cell? w _ hx211_0)).trans hx211_0; replace hx211_1 := (HB.out.cell (World.block_lt_of_cell? w _ hx211_1)).trans hx211_1; replace hx211_2 := (HB.out.cell (World.block_lt_of_cell? w _ hx211_2)).trans hx211_2; replace hx211_3 := (HB.out.cell (World.block_lt_of_cell? w _ hx211_3)).trans hx211_3; replace hx211_4 := (HB.out.cell (World.block_lt_of_cell? w _ hx211_4)).trans hx211_4; have HR211_4 := Aside0.mk hi211_4; have HC211_4 := Aside0.mk hl211_4; clear hi211_4 hl211_4; replace p211 := eq_true p211; replace q211 := eq_true q211; have ea_ := Option.some.inj (hx210_4.symm.trans hx211_4); injection ea_ with ea_ en_ ec_; subst ea_; subst ec_; clear en_))
          go_loopg [4, 37] k (fun kq v4 v37 w' => ∃ (x4_1 : List Int) (x37_1 : Int), v37 = .int .i64 x37_1 ∧ Aside0 (shares_Explain.l0 kq l0 x4_1 ((rd_T52 l0 0).f2) l1 (l1.length : Int) x37_1 = some (r1, r2)) ∧ Aside0 (kq ≤ k) ∧ Aside0 (Kd.R (Kd.int .u8) 5 w' w.heap.size (fun _ => True) v4 x4_1) ∧ Aside0 (Below w.heap.size w w'))
          case atStart => exact ⟨(([] : List Int)), (0), (by first | rfl | (simp; done) | (simp [*]; done)), H', ⟨Nat.le_refl _⟩, ⟨by first | exact Kd.R_nil _ _ _ _ _ | exact Kd.N_nil _ _ _ _ _ | exact Kd.V_nil _ _ _ _ _ | exact Kd.Q_nil _ _ _ _ _ | exact Kd.S_nil _ _ _ _ _⟩, ⟨by repeat (first | (with_reducible first | exact HB.out | apply below_alloc | apply pw_below_drewN | apply below_drew1) | exact HB.out)⟩⟩
          case round =>
            clear H'
            try clear c1
            try clear c2
            try clear p2
            try clear q2
            try clear hx2
            try clear qi2
            try clear c3
            try clear c4
            try clear c4b0
            try clear c4b1
            try clear c5
            try clear c5b0
            try clear c5b1
            try clear c6
            try clear c6b0
            try clear c8
            try clear c8b0
            try clear c8b1
            try clear c8b2
            try clear hx210_0
            try clear hx210_1
            try clear hx210_2
            try clear hx210_3
            try clear hx210_4
            try clear hx211_0
            try clear hx211_1
            try clear hx211_2
            try clear hx211_3
            try clear hx211_4
            try clear p210
            try clear p211
            try clear q210
            try clear q211
            obtain ⟨x4_1, x37_1, rfl, HA, HK1, HO_4, HB⟩ := hrel
            cases gk with
            | zero => exact absurd HA.out (by simp [shares_Explain.l0])
            | succ k1 =>
              have H := HA.out
              clear HA
              simp only [shares_Explain.l0] at H
              by_cases c10 : x37_1 < (l1.length : Int)
              · rw [if_pos c10] at H
                have c10b0 : decide (x37_1 < (l1.length : Int)) = true := decide_eq_true c10
                clear c10
                by_cases c11 : 0 ≤ x37_1
                · rw [if_pos c11] at H
                  have c11b0 : decide (0 ≤ x37_1) = true := decide_eq_true c11
                  clear c11
                  by_cases c12 : x37_1 < (l1.length : Int)
                  · rw [if_pos c12] at H
                    have c12b0 : decide (x37_1 < (l1.length : Int)) = true := decide_eq_true c12
                    clear c12
                    replace H := Option.bind_eq_some_iff.mp H
                    obtain ⟨⟨t213, t214⟩, A130, H⟩ := H
                    replace H : (if t213.length < 140737488355328 then (if t214.length < 140737488355328 then (shares_Explain.l1 k1 l0 x4_1 ((rd_T52 l0 0).f2) (t213 ++ [0]) (t214 ++ [rd l1 x37_1]) 9 l1 (l1.length : Int) x37_1) else (none)) else (none)) = some (r1, r2) := H
                    have A13 := Aside0.mk A130
                    clear A130
                    by_cases c14 : t213.length < 140737488355328
                    · rw [if_pos c14] at H
                      have LMc14 := Aside0.mk c14
                      clear c14
                      obtain ⟨y219, hy219⟩ : ∃ y_ : List Int, y_ = (t213 ++ [0]) := ⟨_, rfl⟩
                      replace H : (if t214.length < 140737488355328 then (shares_Explain.l1 k1 l0 x4_1 ((rd_T52 l0 0).f2) y219 (t214 ++ [rd l1 x37_1]) 9 l1 (l1.length : Int) x37_1) else (none)) = some (r1, r2) := by first | (rw [hy219]; with_reducible exact H) | (have H2_ := (Option.bind_some _ _).symm.trans H; rw [hy219]; with_reducible exact H2_) | (have H2_ := (Option.bind_some _ _).symm.trans H; with_reducible exact H2_) | with_reducible exact H | (rw [hy219]; exact H) | exact H
                      have Ny219 := Aside0.mk hy219
                      clear hy219
                      by_cases c15 : t214.length < 140737488355328
                      · rw [if_pos c15] at H
                        have LMc15 := Aside0.mk c15
                        clear c15
                        obtain ⟨y222, hy222⟩ : ∃ y_ : List Int, y_ = (t214 ++ [rd l1 x37_1]) := ⟨_, rfl⟩
                        replace H : (shares_Explain.l1 k1 l0 x4_1 ((rd_T52 l0 0).f2) y219 y222 9 l1 (l1.length : Int) x37_1) = some (r1, r2) := by first | (rw [hy222]; with_reducible exact H) | (have H2_ := (Option.bind_some _ _).symm.trans H; rw [hy222]; with_reducible exact H2_) | (have H2_ := (Option.bind_some _ _).symm.trans H; with_reducible exact H2_) | with_reducible exact H | (rw [hy222]; exact H) | exact H
                        have Ny222 := Aside0.mk hy222
                        clear hy222
                        have H' := Aside0.mk H
                        clear H
                        have p212 : 0 ≤ (x37_1 : Int) := of_decide_eq_true (by first | (with_reducible assumption) | assumption)
                        have q212 : x37_1 < (l1.length : Int) := of_decide_eq_true (by first | (with_reducible assumption) | assumption)
                        obtain ⟨ad212, e212, hx212_0⟩ := Kd.at_int HR1.out x37_1 p212 q212
                        cases e212
                        replace hx212_0 := (HB.out.cell (World.block_lt_of_cell? w _ hx212_0)).trans hx212_0
                        replace p212 := eq_true p212
                        replace q212 := eq_true q212
                        go_wp2_with (first | ((with_reducible refine gate_callee (f := 50) rfl ?_); refine goesL_ (some 45) rfl rfl Try.func50 (by kernel_rfl) rfl #[.slice (some ad210) l0.length c0, .int .i64 x37_1] rfl (by (try simp only [List.map_toArray, List.map_cons, List.map_nil]); first | done | rfl | (simp only [List.length_drop, List.length_take]; rfl)) ?_; (with_reducible refine (shares_points.calls k1 _ _ l0 x37_1 t213 t214 _ ?side1 ?side2 A13.out).mono ?_); (case side1 => repeat (first | exact (Kd.C_below HR0.out HB.out) | (with_reducible refine Kd.C_alloc ?_ _) | (with_reducible refine Kd.C_drewN ?_ _) | (with_reducible refine Kd.C_drew ?_))); (case side2 => exact HC0.out); rintro e w16 ⟨v215, v217, rfl, ho0, ho1, hb⟩; refine ⟨_, rfl, ?_⟩; have n0_ := Aside0.mk (Kd.R_mono (Kd.R_told (Kd.R_told (Kd.R_old (by (with_reducible repeat (first | apply Kd.R_alloc | apply Kd.R_drewN | apply Kd.R_drew)); exact HO_4.out) hb) (Kd.R_base ho0)) (Kd.R_base ho1)) (fun _ h_ => h_.1)); have n1_ := Aside0.mk (Kd.R_lower (Kd.R_new' ho0 (Kd.R_lt (by (with_reducible repeat (first | apply Kd.R_alloc | apply Kd.R_drewN | apply Kd.R_drew)); exact HO_4.out))) (below_size (by repeat (first | (with_reducible first | exact HB.out | apply below_alloc | apply pw_below_drewN | apply below_drew1) | exact HB.out)))); have n2_ := Aside0.mk (Kd.R_lower (Kd.R_new' ho1 (Kd.R_lt (by (with_reducible repeat (first | apply Kd.R_alloc | apply Kd.R_drewN | apply Kd.R_drew)); exact HO_4.out))) (below_size (by repeat (first | (with_reducible first | exact HB.out | apply below_alloc | apply pw_below_drewN | apply below_drew1) | exact HB.out)))); have n3_ := Aside0.mk (below_step (by repeat (first | (with_reducible first | exact HB.out | apply below_alloc | apply pw_below_drewN | apply below_drew1) | exact HB.out)) hb); clear HO_4; clear HB; have HO_4 := n0_; have HO216 := n1_; have HO218 := n2_; have HB := n3_; clear n0_ n1_ n2_ n3_; (try clear hb); (try clear hb2); (try clear hk); (try clear hi); (try clear ho0); (try clear ho1)) | ((with_reducible refine gate_builtin (b := .append) (xs := #[.tmp 48, .tmp 49]) rfl ?_); at_builtin; refine Kd.R_append (Kd.int .u8) (w0 := w) w.heap.size rfl (.tmp 48) (.tmp 49) 30 5 (.int .u8 0) 1 rfl Try.underlying30 info5 rfl (by decide) (by omega) v215 t213 0 [.int .u8 0] (fun k_ => some k_ ≠ (u4 : Value).ownBlock ∧ some k_ ≠ (v217 : Value).ownBlock) (fun _ => False) rfl rfl ?aP (fun _ hk => hk.elim) ?aF ?aO ?aB ?aS ?aL ?_; (case aP => exact rfl); (case aB => exact (by repeat (first | (with_reducible first | exact HB.out | apply below_alloc | apply pw_below_drewN | apply below_drew1) | exact HB.out))); (case aF => exact (fun k_ hk => ⟨Kd.fresh' (Kd.R_lt (by (with_reducible repeat (first | apply Kd.R_alloc | apply Kd.R_drewN | apply Kd.R_drew)); exact HO_4.out)) k_ hk, Kd.fresh' (Kd.R_lt (by (with_reducible repeat (first | apply Kd.R_alloc | apply Kd.R_drewN | apply Kd.R_drew)); exact HO218.out)) k_ hk⟩)); (case aO => exact (by (with_reducible repeat (first | apply Kd.R_alloc | apply Kd.R_drewN | apply Kd.R_drew)); exact Kd.R_mono HO216.out (fun _ hk => ⟨hk.2, hk.1⟩))); (case aS => exact (below_size (by repeat (first | (with_reducible first | exact HB.out | apply below_alloc | apply pw_below_drewN | apply below_drew1) | exact HB.out)))); (case aL => have := LMc14.out; omega); intro v220 w17 ho hb hg hat; rw [← Ny219.out] at ho; have n0_ := Aside0.mk (Kd.R_after (ok := (fun k_ => some k_ ≠ (v217 : Value).ownBlock)) (by (with_reducible repeat (first | apply Kd.R_alloc | apply Kd.R_drewN | apply Kd.R_drew)); exact Kd.R_mono HO_4.out (fun _ hk => ⟨hk.2, hk.1.2⟩)) hg hat); have n1_ := Aside0.mk (Kd.R_after (ok := (fun k_ => some k_ ≠ (u4 : Value).ownBlock)) (by (with_reducible repeat (first | apply Kd.R_alloc | apply Kd.R_drewN | apply Kd.R_drew)); exact Kd.R_mono HO218.out (fun _ hk => ⟨hk.2, hk.1⟩)) hg hat); have n2_ := Aside0.mk (hb); have n3_ := Aside0.mk (ho); clear HO_4; clear HO218; clear HB; clear HO216; have HO_4 := n0_; have HO218 := n1_; have HB := n2_; have HO221 := n3_; clear n0_ n1_ n2_ n3_; clear ho hb hg hat) | ((with_reducible refine gate_builtin (b := .append) (xs := #[.tmp 51, .tmp 53]) rfl ?_); at_builtin; refine Kd.R_append (Kd.int .u8) (w0 := w) w.heap.size rfl (.tmp 51) (.tmp 53) 30 5 (.int .u8 0) 1 rfl Try.underlying30 info5 rfl (by decide) (by omega) v217 t214 (rd l1 x37_1) [.int .u8 (rd l1 x37_1)] (fun k_ => some k_ ≠ (u4 : Value).ownBlock ∧ some k_ ≠ (v220 : Value).ownBlock) (fun _ => False) rfl rfl ?aP (fun _ hk => hk.elim) ?aF ?aO ?aB ?aS ?aL ?_; (case aP => exact rfl); (case aB => exact (by repeat (first | (with_reducible first | exact HB.out | apply below_alloc | apply pw_below_drewN | apply below_drew1) | exact HB.out))); (case aF => exact (fun k_ hk => ⟨Kd.fresh' (Kd.R_lt (by (with_reducible repeat (first | apply Kd.R_alloc | apply Kd.R_drewN | apply Kd.R_drew)); exact HO_4.out)) k_ hk, Kd.fresh' (Kd.R_lt (by (with_reducible repeat (first | apply Kd.R_alloc | apply Kd.R_drewN | apply Kd.R_drew)); exact HO221.out)) k_ hk⟩)); (case aO => exact (by (with_reducible repeat (first | apply Kd.R_alloc | apply Kd.R_drewN | apply Kd.R_drew)); exact HO218.out)); (case aS => exact (below_size (by repeat (first | (with_reducible first | exact HB.out | apply below_alloc | apply pw_below_drewN | apply below_drew1) | exact HB.out)))); (case aL => have := LMc15.out; omega); intro v223 w18 ho hb hg hat; rw [← Ny222.out] at ho; have n0_ := Aside0.mk (Kd.R_after (ok := (fun k_ => some k_ ≠ (v220 : Value).ownBlock)) (by (with_reducible repeat (first | apply Kd.R_alloc | apply Kd.R_drewN | apply Kd.R_drew)); exact Kd.R_mono HO_4.out (fun _ hk => ⟨hk.2, hk.1⟩)) hg hat); have n1_ := Aside0.mk (Kd.R_after (ok := (fun k_ => some k_ ≠ (u4 : Value).ownBlock)) (by (with_reducible repeat (first | apply Kd.R_alloc | apply Kd.R_drewN | apply Kd.R_drew)); exact HO221.out) hg hat); have n2_ := Aside0.mk (hb); have n3_ := Aside0.mk (ho); clear HO_4; clear HO221; clear HB; clear HO218; have HO_4 := n0_; have HO221 := n1_; have HB := n2_; have HO224 := n3_; clear n0_ n1_ n2_ n3_; clear ho hb hg hat))
                        go_loopg [9, 10, 11] k1 (fun kq v9 v10 v11 w' => ∃ (x9_2 : List Int) (x10_2 : List Int) (x11_2 : Int), v11 = .int .u8 x11_2 ∧ Aside0 (shares_Explain.l1 kq l0 x4_1 ((rd_T52 l0 0).f2) x9_2 x10_2 x11_2 l1 (l1.length : Int) x37_1 = some (r1, r2)) ∧ Aside0 (kq ≤ k1) ∧ Aside0 (Kd.R (Kd.int .u8) 5 w' w.heap.size (fun k_ => some k_ ≠ (v9 : Value).ownBlock ∧ some k_ ≠ (v10 : Value).ownBlock) u4 x4_1) ∧ Aside0 (Kd.R (Kd.int .u8) 5 w' w.heap.size (fun k_ => some k_ ≠ (u4 : Value).ownBlock ∧ some k_ ≠ (v10 : Value).ownBlock) v9 x9_2) ∧ Aside0 (Kd.R (Kd.int .u8) 5 w' w.heap.size (fun k_ => some k_ ≠ (u4 : Value).ownBlock ∧ some k_ ≠ (v9 : Value).ownBlock) v10 x10_2) ∧ Aside0 (Below w.heap.size w w'))
                        case atStart => exact ⟨(y219), (y222), (9), (by first | rfl | (simp; done) | (simp [*]; done)), H', ⟨Nat.le_refl _⟩, ⟨by (with_reducible repeat (first | apply Kd.R_alloc | apply Kd.R_drewN | apply Kd.R_drew)); exact HO_4.out⟩, ⟨by (with_reducible repeat (first | apply Kd.R_alloc | apply Kd.R_drewN | apply Kd.R_drew)); exact HO221.out⟩, ⟨by (with_reducible repeat (first | apply Kd.R_alloc | apply Kd.R_drewN | apply Kd.R_drew)); exact HO224.out⟩, ⟨by repeat (first | (with_reducible first | exact HB.out | apply below_alloc | apply pw_below_drewN | apply below_drew1) | exact HB.out)⟩⟩
                        case round =>
                          clear H'
                          try clear c1
                          try clear c2
                          try clear p2
                          try clear q2
                          try clear hx2
                          try clear qi2
                          try clear c3
                          try clear c4
                          try clear c4b0
                          try clear c4b1
                          try clear c5
                          try clear c5b0
                          try clear c5b1
                          try clear c6
                          try clear c6b0
                          try clear c8
                          try clear c8b0
                          try clear c8b1
                          try clear c8b2
                          try clear c10
                          try clear c10b0
                          try clear c11
                          try clear c11b0
                          try clear c12
                          try clear c12b0
                          try clear c14
                          try clear c15
                          try clear hx210_0
                          try clear hx210_1
                          try clear hx210_2
                          try clear hx210_3
                          try clear hx210_4
                          try clear hx211_0
                          try clear hx211_1
                          try clear hx211_2
                          try clear hx211_3
                          try clear hx211_4
                          try clear hx212_0
                          try clear p2
                          try clear p210
                          try clear p211
                          try clear p212
                          try clear q2
                          try clear q210
                          try clear q211
                          try clear q212
                          obtain ⟨x9_2, x10_2, x11_2, rfl, HA, HK2, HO_4, HO_9, HO_10, HB⟩ := hrel
                          cases gk with
                          | zero => exact absurd HA.out (by simp [shares_Explain.l1])
                          | succ k2 =>
                            have H := HA.out
                            clear HA
                            simp only [shares_Explain.l1] at H
                            by_cases c19 : (x9_2.length : Int) < ((rd_T52 l0 0).f2)
                            · rw [if_pos c19] at H
                              have c19b0 : decide ((x9_2.length : Int) < ((rd_T52 l0 0).f2)) = true := decide_eq_true c19
                              clear c19
                              by_cases c20 : x9_2.length < 140737488355328
                              · rw [if_pos c20] at H
                                have LMc20 := Aside0.mk c20
                                clear c20
                                obtain ⟨y225, hy225⟩ : ∃ y_ : List Int, y_ = (x9_2 ++ [x11_2]) := ⟨_, rfl⟩
                                replace H : (if x10_2.length < 140737488355328 then (shares_Explain.l1 k2 l0 x4_1 ((rd_T52 l0 0).f2) y225 (x10_2 ++ [0]) ((x11_2 + 1) % 256) l1 (l1.length : Int) x37_1) else (none)) = some (r1, r2) := by first | (rw [hy225]; with_reducible exact H) | (have H2_ := (Option.bind_some _ _).symm.trans H; rw [hy225]; with_reducible exact H2_) | (have H2_ := (Option.bind_some _ _).symm.trans H; with_reducible exact H2_) | with_reducible exact H | (rw [hy225]; exact H) | exact H
                                have Ny225 := Aside0.mk hy225
                                clear hy225
                                by_cases c21 : x10_2.length < 140737488355328
                                · rw [if_pos c21] at H
                                  have LMc21 := Aside0.mk c21
                                  clear c21
                                  obtain ⟨y228, hy228⟩ : ∃ y_ : List Int, y_ = (x10_2 ++ [0]) := ⟨_, rfl⟩
                                  replace H : (shares_Explain.l1 k2 l0 x4_1 ((rd_T52 l0 0).f2) y225 y228 ((x11_2 + 1) % 256) l1 (l1.length : Int) x37_1) = some (r1, r2) := by first | (rw [hy228]; with_reducible exact H) | (have H2_ := (Option.bind_some _ _).symm.trans H; rw [hy228]; with_reducible exact H2_) | (have H2_ := (Option.bind_some _ _).symm.trans H; with_reducible exact H2_) | with_reducible exact H | (rw [hy228]; exact H) | exact H
                                  have Ny228 := Aside0.mk hy228
                                  clear hy228
                                  have H' := Aside0.mk H
                                  clear H
                                  obtain ⟨Ao22, co22, eo22⟩ := Kd.R_slice HO_9.out
                                  subst eo22
                                  go_wp2_with (first | ((with_reducible refine gate_builtin (b := .append) (xs := #[.tmp 61, .tmp 63]) rfl ?_); at_builtin; refine Kd.R_append (Kd.int .u8) (w0 := w) w.heap.size rfl (.tmp 61) (.tmp 63) 30 5 (.int .u8 0) 1 rfl Try.underlying30 info5 rfl (by decide) (by omega) (.slice Ao22 x9_2.length co22) x9_2 x11_2 [.int .u8 x11_2] (fun k_ => some k_ ≠ (u4 : Value).ownBlock ∧ some k_ ≠ (u10 : Value).ownBlock) (fun _ => False) rfl rfl ?aP (fun _ hk => hk.elim) ?aF ?aO ?aB ?aS ?aL ?_; (case aP => exact rfl); (case aB => exact (by repeat (first | (with_reducible first | exact HB.out | apply below_alloc | apply pw_below_drewN | apply below_drew1) | exact HB.out))); (case aF => exact (fun k_ hk => ⟨Kd.fresh' (Kd.R_lt (by (with_reducible repeat (first | apply Kd.R_alloc | apply Kd.R_drewN | apply Kd.R_drew)); exact HO_4.out)) k_ hk, Kd.fresh' (Kd.R_lt (by (with_reducible repeat (first | apply Kd.R_alloc | apply Kd.R_drewN | apply Kd.R_drew)); exact HO_10.out)) k_ hk⟩)); (case aO => exact (by (with_reducible repeat (first | apply Kd.R_alloc | apply Kd.R_drewN | apply Kd.R_drew)); exact HO_9.out)); (case aS => exact (below_size (by repeat (first | (with_reducible first | exact HB.out | apply below_alloc | apply pw_below_drewN | apply below_drew1) | exact HB.out)))); (case aL => have := LMc20.out; omega); intro v226 w23 ho hb hg hat; rw [← Ny225.out] at ho; have n0_ := Aside0.mk (Kd.R_after (ok := (fun k_ => some k_ ≠ (u10 : Value).ownBlock)) (by (with_reducible repeat (first | apply Kd.R_alloc | apply Kd.R_drewN | apply Kd.R_drew)); exact Kd.R_mono HO_4.out (fun _ hk => ⟨hk.2, hk.1⟩)) hg hat); have n1_ := Aside0.mk (Kd.R_after (ok := (fun k_ => some k_ ≠ (u4 : Value).ownBlock)) (by (with_reducible repeat (first | apply Kd.R_alloc | apply Kd.R_drewN | apply Kd.R_drew)); exact HO_10.out) hg hat); have n2_ := Aside0.mk (hb); have n3_ := Aside0.mk (ho); clear HO_4; clear HO_10; clear HB; clear HO_9; have HO_4 := n0_; have HO_10 := n1_; have HB := n2_; have HO227 := n3_; clear n0_ n1_ n2_ n3_; clear ho hb hg hat) | ((with_reducible refine gate_builtin (b := .append) (xs := #[.tmp 65, .tmp 66]) rfl ?_); at_builtin; refine Kd.R_append (Kd.int .u8) (w0 := w) w.heap.size rfl (.tmp 65) (.tmp 66) 30 5 (.int .u8 0) 1 rfl Try.underlying30 info5 rfl (by decide) (by omega) u10 x10_2 0 [.int .u8 0] (fun k_ => some k_ ≠ (u4 : Value).ownBlock ∧ some k_ ≠ (v226 : Value).ownBlock) (fun _ => False) rfl rfl ?aP (fun _ hk => hk.elim) ?aF ?aO ?aB ?aS ?aL ?_; (case aP => exact rfl); (case aB => exact (by repeat (first | (with_reducible first | exact HB.out | apply below_alloc | apply pw_below_drewN | apply below_drew1) | exact HB.out))); (case aF => exact (fun k_ hk => ⟨Kd.fresh' (Kd.R_lt (by (with_reducible repeat (first | apply Kd.R_alloc | apply Kd.R_drewN | apply Kd.R_drew)); exact HO_4.out)) k_ hk, Kd.fresh' (Kd.R_lt (by (with_reducible repeat (first | apply Kd.R_alloc | apply Kd.R_drewN | apply Kd.R_drew)); exact HO227.out)) k_ hk⟩)); (case aO => exact (by (with_reducible repeat (first | apply Kd.R_alloc | apply Kd.R_drewN | apply Kd.R_drew)); exact HO_10.out)); (case aS => exact (below_size (by repeat (first | (with_reducible first | exact HB.out | apply below_alloc | apply pw_below_drewN | apply below_drew1) | exact HB.out)))); (case aL => have := LMc21.out; omega); intro v229 w24 ho hb hg hat; rw [← Ny228.out] at ho; have n0_ := Aside0.mk (Kd.R_after (ok := (fun k_ => some k_ ≠ (v226 : Value).ownBlock)) (by (with_reducible repeat (first | apply Kd.R_alloc | apply Kd.R_drewN | apply Kd.R_drew)); exact Kd.R_mono HO_4.out (fun _ hk => ⟨hk.2, hk.1⟩)) hg hat); have n1_ := Aside0.mk (Kd.R_after (ok := (fun k_ => some k_ ≠ (u4 : Value).ownBlock)) (by (with_reducible repeat (first | apply Kd.R_alloc | apply Kd.R_drewN | apply Kd.R_drew)); exact HO227.out) hg hat); have n2_ := Aside0.mk (hb); have n3_ := Aside0.mk (ho); clear HO_4; clear HO227; clear HB; clear HO_10; have HO_4 := n0_; have HO227 := n1_; have HB := n2_; have HO230 := n3_; clear n0_ n1_ n2_ n3_; clear ho hb hg hat))
                                  go_roundg k2
                                  case measure => have := HK1.out; have := HK2.out; omega
                                  case rel => exact ⟨(y225), (y228), ((x11_2 + 1) % 256), (by first | rfl | (simp; done) | (simp [*]; done)), H', ⟨by have := HK1.out; have := HK2.out; omega⟩, ⟨by (with_reducible repeat (first | apply Kd.R_alloc | apply Kd.R_drewN | apply Kd.R_drew)); exact HO_4.out⟩, ⟨by (with_reducible repeat (first | apply Kd.R_alloc | apply Kd.R_drewN | apply Kd.R_drew)); exact HO227.out⟩, ⟨by (with_reducible repeat (first | apply Kd.R_alloc | apply Kd.R_drewN | apply Kd.R_drew)); exact HO230.out⟩, ⟨by repeat (first | (with_reducible first | exact HB.out | apply below_alloc | apply pw_below_drewN | apply below_drew1) | exact HB.out)⟩⟩
                                · rw [if_neg c21] at H
                                  exact absurd H (by simp)
                              · rw [if_neg c20] at H
                                exact absurd H (by simp)
                            · rw [if_neg c19] at H
                              have c19b0 : decide ((x9_2.length : Int) < ((rd_T52 l0 0).f2)) = false := decide_eq_false c19
                              clear c19
                              replace H := Option.bind_eq_some_iff.mp H
                              obtain ⟨⟨t231, t232⟩, A250, H⟩ := H
                              replace H : (if 1 ≤ (t231.length : Int) then ((some (t231.drop 1 : List Int)).bind fun y235 => (if x4_1.length + y235.length < 140737488355328 then (shares_Explain.l0 k2 l0 (x4_1 ++ y235) ((rd_T52 l0 0).f2) l1 (l1.length : Int) (wrap64 (x37_1 + 1))) else (none))) else (none)) = some (r1, r2) := H
                              have A25 := Aside0.mk A250
                              clear A250
                              by_cases c26 : 1 ≤ (t231.length : Int)
                              · rw [if_pos c26] at H
                                have c26b0 := eq_true c26
                                have c26b1 : decide (1 ≤ (t231.length : Int)) = true := decide_eq_true c26
                                clear c26
                                obtain ⟨y235, hy235⟩ : ∃ y_ : List Int, y_ = (t231.drop 1) := ⟨_, rfl⟩
                                replace H : (if x4_1.length + y235.length < 140737488355328 then (shares_Explain.l0 k2 l0 (x4_1 ++ y235) ((rd_T52 l0 0).f2) l1 (l1.length : Int) (wrap64 (x37_1 + 1))) else (none)) = some (r1, r2) := by first | (rw [hy235]; with_reducible exact H) | (have H2_ := (Option.bind_some _ _).symm.trans H; rw [hy235]; with_reducible exact H2_) | (have H2_ := (Option.bind_some _ _).symm.trans H; with_reducible exact H2_) | with_reducible exact H | (rw [hy235]; exact H) | exact H
                                have Ny235 := Aside0.mk hy235
                                clear hy235
                                by_cases c27 : x4_1.length + y235.length < 140737488355328
                                · rw [if_pos c27] at H
                                  have LMc27 := Aside0.mk c27
                                  clear c27
                                  obtain ⟨y239, hy239⟩ : ∃ y_ : List Int, y_ = (x4_1 ++ y235) := ⟨_, rfl⟩
                                  replace H : (shares_Explain.l0 k2 l0 y239 ((rd_T52 l0 0).f2) l1 (l1.length : Int) (wrap64 (x37_1 + 1))) = some (r1, r2) := by first | (rw [hy239]; with_reducible exact H) | (have H2_ := (Option.bind_some _ _).symm.trans H; rw [hy239]; with_reducible exact H2_) | (have H2_ := (Option.bind_some _ _).symm.trans H; with_reducible exact H2_) | with_reducible exact H | (rw [hy239]; exact H) | exact H
                                  have Ny239 := Aside0.mk hy239
                                  clear hy239
                                  have H' := Aside0.mk H
                                  clear H
                                  obtain ⟨Ao28, co28, eo28⟩ := Kd.R_slice HO_9.out
                                  subst eo28
                                  obtain ⟨Ao29, co29, eo29⟩ := Kd.R_slice HO_10.out
                                  subst eo29
                                  go_wp2_with (first | ((with_reducible refine gate_callee (f := 20) rfl ?_); refine goesL_ (some 71) rfl rfl Try.func20 (by kernel_rfl) rfl #[.slice Ao28 x9_2.length co28, .slice Ao29 x10_2.length co29] rfl (by (try simp only [List.map_toArray, List.map_cons, List.map_nil]); first | done | rfl | (simp only [List.length_drop, List.length_take]; rfl)) ?_; (with_reducible refine (field_Coefficients.calls _ _ x9_2 _ _ x10_2 t231 t232 _ ?side1 ?side2 ?side3 ?side4 A25.out).mono ?_); (case side1 => repeat (first | exact (Kd.R_reads' HO_9.out).2.2 | (with_reducible refine Kd.C_alloc ?_ _) | (with_reducible refine Kd.C_drewN ?_ _) | (with_reducible refine Kd.C_drew ?_))); (case side2 => exact (Kd.R_reads' HO_9.out).2.1); (case side3 => repeat (first | exact (Kd.R_reads' HO_10.out).2.2 | (with_reducible refine Kd.C_alloc ?_ _) | (with_reducible refine Kd.C_drewN ?_ _) | (with_reducible refine Kd.C_drew ?_))); (case side4 => exact (Kd.R_reads' HO_10.out).2.1); rintro e w30 ⟨v233, rfl, ho0, hb⟩; refine ⟨_, rfl, ?_⟩; have n0_ := Aside0.mk (Kd.R_elder' (by (with_reducible repeat (first | apply Kd.R_alloc | apply Kd.R_drewN | apply Kd.R_drew)); exact HO_4.out) (Kd.R_base ho0) hb); have n1_ := Aside0.mk (Kd.R_elder' (by (with_reducible repeat (first | apply Kd.R_alloc | apply Kd.R_drewN | apply Kd.R_drew)); exact HO_9.out) (Kd.R_base ho0) hb); have n2_ := Aside0.mk (Kd.R_elder' (by (with_reducible repeat (first | apply Kd.R_alloc | apply Kd.R_drewN | apply Kd.R_drew)); exact HO_10.out) (Kd.R_base ho0) hb); have n3_ := Aside0.mk (Kd.R_lower (Kd.R_new' (Kd.R_new' (Kd.R_new' ho0 (Kd.R_lt (by (with_reducible repeat (first | apply Kd.R_alloc | apply Kd.R_drewN | apply Kd.R_drew)); exact HO_4.out))) (Kd.R_lt (by (with_reducible repeat (first | apply Kd.R_alloc | apply Kd.R_drewN | apply Kd.R_drew)); exact HO_9.out))) (Kd.R_lt (by (with_reducible repeat (first | apply Kd.R_alloc | apply Kd.R_drewN | apply Kd.R_drew)); exact HO_10.out))) (below_size (by repeat (first | (with_reducible first | exact HB.out | apply below_alloc | apply pw_below_drewN | apply below_drew1) | exact HB.out)))); have n4_ := Aside0.mk (below_step (by repeat (first | (with_reducible first | exact HB.out | apply below_alloc | apply pw_below_drewN | apply below_drew1) | exact HB.out)) hb); clear HO_4; clear HO_9; clear HO_10; clear HB; have HO_4 := n0_; have HO_9 := n1_; have HO_10 := n2_; have HO234 := n3_; have HB := n4_; clear n0_ n1_ n2_ n3_ n4_; (try clear hb); (try clear hb2); (try clear hk); (try clear hi); (try clear ho0); obtain ⟨Ao32, co32, eo32⟩ := Kd.R_slice HO234.out; subst eo32; have q31 : (1 : Int) ≤ ((t231.length : Int) : Int) := of_decide_eq_true (by first | (with_reducible assumption) | assumption); obtain ⟨i031, hi031, _, hsz31, _⟩ := info_parts info5; have hroom31 : t231.length ≤ co32 := (Kd.R_reads' HO234.out).2.1; have hC31 : Kd.C (Kd.int .u8) _ Ao32 t231.length t231 := (Kd.R_reads' HO234.out).2.2; have hcut31 := cut_from (P := Try.prog) 30 5 .i64 Try.underlying30 hi031 1 hsz31 Ao32 t231.length co32 1 (by omega) q31; have hr31 := Kd.C_drop (m := (1 : Int).toNat) (c := co32) hC31 (by omega) hroom31; obtain ⟨A31, hA31⟩ : ∃ A1, A1 = (if co32 = (1 : Int).toNat then Ao32 else (Ao32 : Option Addr).map (·.add ((1 : Int).toNat * 1))) := ⟨_, rfl⟩; obtain ⟨c31, hc31⟩ : ∃ c1, c1 = co32 - (1 : Int).toNat := ⟨_, rfl⟩; have hy31 : y235.length = t231.length - (1 : Int).toNat := (by rw [Ny235.out, List.length_drop] <;> omega); rw [show (t231).drop (1 : Int).toNat = y235 from Ny235.out.symm] at hr31; replace hr31 : Kd.C (Kd.int .u8) _ A31 y235.length y235 := (by rw [hA31]; exact hr31); rw [← hy31, ← hA31, ← hc31] at hcut31; have HR238 := Aside0.mk hr31; have HC238 := Aside0.mk (show y235.length ≤ c31 from by rw [hy31, hc31]; exact Nat.sub_le_sub_right hroom31 _); clear hr31 hC31 hroom31 hi031 hsz31 hc31; have KY31 := Aside0.mk hy31; have KA31 := Aside0.mk hA31; clear hy31 hA31; have KL31 := Aside0.mk (show 1 ≤ t231.length from by omega); replace q31 := eq_true q31) | ((with_reducible refine gate_builtin (b := .append) (xs := #[.tmp 74, .tmp 76]) rfl ?_); at_builtin; refine Kd.R_append_rows (Kd.int .u8) (w0 := w) w.heap.size rfl (.tmp 74) (.tmp 76) 30 5 (.int .u8 0) 1 rfl Try.underlying30 info5 rfl (by decide) (by omega) u4 x4_1 y235 _ _ _ (fun k_ => some k_ ≠ (.slice Ao28 x9_2.length co28 : Value).ownBlock ∧ some k_ ≠ (.slice Ao29 x10_2.length co29 : Value).ownBlock ∧ some k_ ≠ (.slice Ao32 t231.length co32 : Value).ownBlock) (fun _ => False) rfl rfl ?aO ?aR (fun _ _ h => h) (fun _ h => h.elim) ?aF ?aB ?aS ?aL ?_; (case aR => repeat (first | exact (by repeat (first | (with_reducible exact HR238.out) | (with_reducible refine Kd.C_alloc ?_ _) | (with_reducible refine Kd.C_drewN ?_ _) | (with_reducible refine Kd.C_drew ?_) | exact HR238.out)) | (with_reducible refine Kd.C_alloc ?_ _) | (with_reducible refine Kd.C_drewN ?_ _) | (with_reducible refine Kd.C_drew ?_))); (case aB => exact (by repeat (first | (with_reducible first | exact HB.out | apply below_alloc | apply pw_below_drewN | apply below_drew1) | exact HB.out))); (case aF => exact (fun k_ hk => ⟨Kd.fresh' (Kd.R_lt (by (with_reducible repeat (first | apply Kd.R_alloc | apply Kd.R_drewN | apply Kd.R_drew)); exact HO_9.out)) k_ hk, Kd.fresh' (Kd.R_lt (by (with_reducible repeat (first | apply Kd.R_alloc | apply Kd.R_drewN | apply Kd.R_drew)); exact HO_10.out)) k_ hk, Kd.fresh' (Kd.R_lt (by (with_reducible repeat (first | apply Kd.R_alloc | apply Kd.R_drewN | apply Kd.R_drew)); exact HO234.out)) k_ hk⟩)); (case aO => exact (by (with_reducible repeat (first | apply Kd.R_alloc | apply Kd.R_drewN | apply Kd.R_drew)); exact Kd.R_mono HO_4.out (fun _ hk => ⟨hk.1.1, ⟨hk.1.2, hk.2⟩⟩))); (case aS => exact (below_size (by repeat (first | (with_reducible first | exact HB.out | apply below_alloc | apply pw_below_drewN | apply below_drew1) | exact HB.out)))); (case aL => have := LMc27.out; omega); intro v240 w33 ho hb hg hat; rw [← Ny239.out] at ho; have n0_ := Aside0.mk (Kd.R_after (ok := (fun k_ => some k_ ≠ (.slice Ao29 x10_2.length co29 : Value).ownBlock ∧ some k_ ≠ (.slice Ao32 t231.length co32 : Value).ownBlock)) (by (with_reducible repeat (first | apply Kd.R_alloc | apply Kd.R_drewN | apply Kd.R_drew)); exact Kd.R_mono HO_9.out (fun _ hk => ⟨⟨hk.1.2, hk.2⟩, hk.1.1⟩)) hg hat); have n1_ := Aside0.mk (Kd.R_after (ok := (fun k_ => some k_ ≠ (.slice Ao28 x9_2.length co28 : Value).ownBlock ∧ some k_ ≠ (.slice Ao32 t231.length co32 : Value).ownBlock)) (by (with_reducible repeat (first | apply Kd.R_alloc | apply Kd.R_drewN | apply Kd.R_drew)); exact Kd.R_mono HO_10.out (fun _ hk => ⟨⟨hk.1.2, hk.2⟩, hk.1.1⟩)) hg hat); have n2_ := Aside0.mk (Kd.R_after (ok := (fun k_ => some k_ ≠ (.slice Ao28 x9_2.length co28 : Value).ownBlock ∧ some k_ ≠ (.slice Ao29 x10_2.length co29 : Value).ownBlock)) (by (with_reducible repeat (first | apply Kd.R_alloc | apply Kd.R_drewN | apply Kd.R_drew)); exact Kd.R_mono HO234.out (fun _ hk => ⟨⟨hk.1.2, hk.2⟩, hk.1.1.2⟩)) hg hat); have n3_ := Aside0.mk (hb); have n4_ := Aside0.mk ((show Kd.C (Kd.int .u8) w33 A31 y235.length y235 from by rw [Ny235.out, KA31.out]; exact Kd.C_drop (m := 1) (c := co32) ((Kd.R_reads' (Kd.R_after (ok := (fun k_ => some k_ ≠ (.slice Ao28 x9_2.length co28 : Value).ownBlock ∧ some k_ ≠ (.slice Ao29 x10_2.length co29 : Value).ownBlock)) (by (with_reducible repeat (first | apply Kd.R_alloc | apply Kd.R_drewN | apply Kd.R_drew)); exact Kd.R_mono HO234.out (fun _ hk => ⟨⟨hk.1.2, hk.2⟩, hk.1.1.2⟩)) hg hat)).2.2) KL31.out ((Kd.R_reads' (Kd.R_after (ok := (fun k_ => some k_ ≠ (.slice Ao28 x9_2.length co28 : Value).ownBlock ∧ some k_ ≠ (.slice Ao29 x10_2.length co29 : Value).ownBlock)) (by (with_reducible repeat (first | apply Kd.R_alloc | apply Kd.R_drewN | apply Kd.R_drew)); exact Kd.R_mono HO234.out (fun _ hk => ⟨⟨hk.1.2, hk.2⟩, hk.1.1.2⟩)) hg hat)).2.1))); have n5_ := Aside0.mk (ho); clear HO_9; clear HO_10; clear HO234; clear HB; clear HR238; clear HO_4; have HO_9 := n0_; have HO_10 := n1_; have HO234 := n2_; have HB := n3_; have HR238 := n4_; have HO241 := n5_; clear n0_ n1_ n2_ n3_ n4_ n5_; clear ho hb hg hat))
                                  go_roundg k2
                                  case measure => have := HK1.out; have := HK2.out; omega
                                  case rel => exact ⟨(y239), (wrap64 (x37_1 + 1)), (by first | rfl | (simp; done) | (simp [*]; done)), H', ⟨by have := HK1.out; have := HK2.out; omega⟩, ⟨by (with_reducible repeat (first | apply Kd.R_alloc | apply Kd.R_drewN | apply Kd.R_drew)); exact Kd.R_mono HO241.out (fun _ hk => trivial)⟩, ⟨by repeat (first | (with_reducible first | exact HB.out | apply below_alloc | apply pw_below_drewN | apply below_drew1) | exact HB.out)⟩⟩
                                · rw [if_neg c27] at H
                                  exact absurd H (by simp)
                              · rw [if_neg c26] at H
                                exact absurd H (by simp)
                      · rw [if_neg c15] at H
                        exact absurd H (by simp)
                    · rw [if_neg c14] at H
                      exact absurd H (by simp)
                  · rw [if_neg c12] at H
                    exact absurd H (by simp)
                · rw [if_neg c11] at H
                  exact absurd H (by simp)
              · rw [if_neg c10] at H
                have c10b0 : decide (x37_1 < (l1.length : Int)) = false := decide_eq_false c10
                clear c10
                simp only [Option.some.injEq, Prod.mk.injEq] at H
                obtain ⟨rfl, rfl⟩ := H
                go_wp2
                go_ret2
                exact ⟨_, by first | rfl | (simp [errW_none, errW_some] <;> rfl) | (simp [*, errW_none, errW_some] <;> rfl), by (with_reducible repeat (first | apply Kd.R_alloc | apply Kd.R_drewN | apply Kd.R_drew)); exact HO_4.out, by repeat (first | (with_reducible first | exact HB.out | apply below_alloc | apply pw_below_drewN | apply below_drew1) | exact HB.out)⟩
        · rw [if_neg c8] at H
          have c8b0 : ((l1.length : Int) == (((rd_T52 l0 0).f4).length : Int)) = false := beq_eq_false_iff_ne.mpr c8
          have c8b1 : ((l1.length : Int) != (((rd_T52 l0 0).f4).length : Int)) = true := bne_iff_ne.mpr c8
          have c8b2 : (l1.length == ((rd_T52 l0 0).f4).length) = false := by first | simpa using c8 | (simp at c8 ⊢; omega)
          simp only [Option.some.injEq, Prod.mk.injEq] at H
          obtain ⟨rfl, rfl⟩ := H
          go_enter Try.func32, Try.ntmps32
          go_wp2_with (first | ((with_reducible refine gate_callee (f := 27) rfl ?_); refine goesL_ (some 15) rfl rfl Try.func27 (by kernel_rfl) rfl #[.slice A0 l0.length c0] rfl (by (try simp only [List.map_toArray, List.map_cons, List.map_nil]); first | done | rfl | (simp only [List.length_drop, List.length_take]; rfl)) ?_; (with_reducible refine (shares_Check.calls _ _ l0 t209 _ ?side1 ?side2 A3.out).mono ?_); (case side1 => repeat (first | exact HR0.out | (with_reducible refine Kd.C_alloc ?_ _) | (with_reducible refine Kd.C_drewN ?_ _) | (with_reducible refine Kd.C_drew ?_))); (case side2 => exact HC0.out); rintro e w34 ⟨rfl, hb⟩; refine ⟨_, rfl, ?_⟩; have n0_ := Aside0.mk (below_step (by repeat (first | (with_reducible first | exact HB.out | apply below_alloc | apply pw_below_drewN | apply below_drew1) | exact HB.out)) hb); clear HB; have HB := n0_; clear n0_; (try clear hb); (try clear hb2); (try clear hk); (try clear hi); have p210 : 0 ≤ (0 : Int) := (by omega); have q210 : 0 < (l0.length : Int) := of_decide_eq_true (by first | (with_reducible assumption) | assumption); obtain ⟨ad210, A210_4, c210_4, e210, hx210_0, hx210_1, hx210_2, hx210_3, hx210_4, hl210_4, hi210_4⟩ := at_T52 HR0.out 0 p210 q210; cases e210; have qi210 : (0 < l0.length) = True := eq_true (by omega); (try rw [show ((0 : Int)).toNat = 0 from rfl] at hx210_0); (try rw [show 0 * 5 = 0 from rfl] at hx210_0); (try rw [Addr.add_zero'] at hx210_0); (try rw [show ((0 : Int)).toNat = 0 from rfl] at hx210_1); (try rw [show 0 * 5 = 0 from rfl] at hx210_1); (try rw [Addr.add_zero'] at hx210_1); (try rw [show ((0 : Int)).toNat = 0 from rfl] at hx210_2); (try rw [show 0 * 5 = 0 from rfl] at hx210_2); (try rw [Addr.add_zero'] at hx210_2); (try rw [show ((0 : Int)).toNat = 0 from rfl] at hx210_3); (try rw [show 0 * 5 = 0 from rfl] at hx210_3); (try rw [Addr.add_zero'] at hx210_3); (try rw [show ((0 : Int)).toNat = 0 from rfl] at hx210_4); (try rw [show 0 * 5 = 0 from rfl] at hx210_4); (try rw [Addr.add_zero'] at hx210_4); replace hx210_0 := (HB.out.cell (World.block_lt_of_cell? w _ hx210_0)).trans hx210_0; replace hx210_1 := (HB.out.cell (World.block_lt_of_cell? w _ hx210_1)).trans hx210_1; replace hx210_2 := (HB.out.cell (World.block_lt_of_cell? w _ hx210_2)).trans hx210_2; replace hx210_3 := (HB.out.cell (World.block_lt_of_cell? w _ hx210_3)).trans hx210_3; replace hx210_4 := (HB.out.cell (World.block_lt_of_cell? w _ hx210_4)).trans hx210_4; have HR210_4 := Aside0.mk hi210_4; have HC210_4 := Aside0.mk hl210_4; clear hi210_4 hl210_4; replace p210 := eq_true p210; replace q210 := eq_true q210; have p211 : 0 ≤ (0 : Int) := (by omega); have q211 : 0 < (l0.length : Int) := of_decide_eq_true (by first | (with_reducible assumption) | assumption); obtain ⟨ad211, A211_4, c211_4, e211, hx211_0, hx211_1, hx211_2, hx211_3, hx211_4, hl211_4, hi211_4⟩ := at_T52 HR0.out 0 p211 q211; obtain rfl : ad210 = ad211 := (by injection e211); have qi211 : (0 < l0.length) = True := eq_true (by omega); (try rw [show ((0 : Int)).toNat = 0 from rfl] at hx211_0); (try rw [show 0 * 5 = 0 from rfl] at hx211_0); (try rw [Addr.add_zero'] at hx211_0); (try rw [show ((0 : Int)).toNat = 0 from rfl] at hx211_1); (try rw [show 0 * 5 = 0 from rfl] at hx211_1); (try rw [Addr.add_zero'] at hx211_1); (try rw [show ((0 : Int)).toNat = 0 from rfl] at hx211_2); (try rw [show 0 * 5 = 0 from rfl] at hx211_2); (try rw [Addr.add_zero'] at hx211_2); (try rw [show ((0 : Int)).toNat = 0 from rfl] at hx211_3); (try rw [show 0 * 5 = 0 from rfl] at hx211_3); (try rw [Addr.add_zero'] at hx211_3); (try rw [show ((0 : Int)).toNat = 0 from rfl] at hx211_4); (try rw [show 0 * 5 = 0 from rfl] at hx211_4); (try rw [Addr.add_zero'] at hx211_4); replace hx211_0 := (HB.out.cell (World.block_lt_of_cell? w _ hx211_0)).trans hx211_0; replace hx211_1 := (HB.out.cell (World.block_lt_of_cell? w _ hx211_1)).trans hx211_1; replace hx211_2 := (HB.out.cell (World.block_lt_of_cell? w _ hx211_2)).trans hx211_2; replace hx211_3 := (HB.out.cell (World.block_lt_of_cell? w _ hx211_3)).trans hx211_3; replace hx211_4 := (HB.out.cell (World.block_lt_of_cell? w _ hx211_4)).trans hx211_4; have HR211_4 := Aside0.mk hi211_4; have HC211_4 := Aside0.mk hl211_4; clear hi211_4 hl211_4; replace p211 := eq_true p211; replace q211 := eq_true q211; have ea_ := Option.some.inj (hx210_4.symm.trans hx211_4); injection ea_ with ea_ en_ ec_; subst ea_; subst ec_; clear en_))
          go_ret2
          exact ⟨_, by first | rfl | (simp [errW_none, errW_some] <;> rfl) | (simp [*, errW_none, errW_some] <;> rfl), by first | exact Kd.R_nil _ _ _ _ _ | exact Kd.N_nil _ _ _ _ _ | exact Kd.V_nil _ _ _ _ _ | exact Kd.Q_nil _ _ _ _ _ | exact Kd.S_nil _ _ _ _ _, by repeat (first | (with_reducible first | exact HB.out | apply below_alloc | apply pw_below_drewN | apply below_drew1) | exact HB.out)⟩
    · rw [if_neg c5] at H
      exact absurd H (by simp)
  · rw [if_neg c4] at H
    have c4b0 : (t209 == 0) = false := beq_eq_false_iff_ne.mpr c4
    have c4b1 : (t209 != 0) = true := bne_iff_ne.mpr c4
    simp only [Option.some.injEq, Prod.mk.injEq] at H
    obtain ⟨rfl, rfl⟩ := H
    go_enter Try.func32, Try.ntmps32
    go_wp2_with (first | ((with_reducible refine gate_callee (f := 27) rfl ?_); refine goesL_ (some 15) rfl rfl Try.func27 (by kernel_rfl) rfl #[.slice A0 l0.length c0] rfl (by (try simp only [List.map_toArray, List.map_cons, List.map_nil]); first | done | rfl | (simp only [List.length_drop, List.length_take]; rfl)) ?_; (with_reducible refine (shares_Check.calls _ _ l0 t209 _ ?side1 ?side2 A3.out).mono ?_); (case side1 => repeat (first | exact HR0.out | (with_reducible refine Kd.C_alloc ?_ _) | (with_reducible refine Kd.C_drewN ?_ _) | (with_reducible refine Kd.C_drew ?_))); (case side2 => exact HC0.out); rintro e w35 ⟨rfl, hb⟩; refine ⟨_, rfl, ?_⟩; have n0_ := Aside0.mk (below_step (by repeat (first | (with_reducible first | exact HB.out | apply below_alloc | apply pw_below_drewN | apply below_drew1) | exact HB.out)) hb); clear HB; have HB := n0_; clear n0_; (try clear hb); (try clear hb2); (try clear hk); (try clear hi)))
    go_ret2
    exact ⟨_, by first | rfl | (simp [errW_none, errW_some] <;> rfl) | (simp [*, errW_none, errW_some] <;> rfl), by first | exact Kd.R_nil _ _ _ _ _ | exact Kd.N_nil _ _ _ _ _ | exact Kd.V_nil _ _ _ _ _ | exact Kd.Q_nil _ _ _ _ _ | exact Kd.S_nil _ _ _ _ _, by repeat (first | (with_reducible first | exact HB.out | apply below_alloc | apply pw_below_drewN | apply below_drew1) | exact HB.out)⟩
end Go.Proofs.Ytillfbohengpaaa.PA
end
section
set_option linter.unusedVariables false
set_option linter.unusedSimpArgs false
namespace Go.Proofs.Ytillfbohengpaaa
open Go.RowKit Gf Go.Sort Go.Proofs.YtillfbohengpaaaW.PrintWords Go.Proofs.YtillfbohengpaaaW.PrintLast PA
def M3 : List Sh := [⟨0, 1, 2, 3, [6#8]⟩, ⟨0, 2, 2, 3, [3#8]⟩, ⟨0, 3, 2, 3, [0#8]⟩]
def L2 : List Sh := [⟨4, 1, 1, 2, [7#8]⟩, ⟨4, 2, 1, 2, [7#8]⟩]
def X3 : List Sh := [⟨1, 1, 2, 3, [6#8]⟩, ⟨1, 2, 2, 3, [3#8]⟩, ⟨1, 3, 2, 3, [0#8]⟩]
theorem m3_eq : splitTo [5#8] [3#8] 0 1 3 3 = M3 := by kernel_rfl
theorem l2_eq : splitTo [7#8] [] 4 0 2 2 = L2 := by kernel_rfl
theorem x3_eq : refreshR M3 [0#8] = X3 := by kernel_rfl
theorem x3_e : refreshE M3 [0#8] = 0 := by kernel_rfl
theorem j_nil : joinR [] = [] ∧ joinE [] = 80 := ⟨by kernel_rfl, by kernel_rfl⟩
theorem j_m : joinR (M3.drop 1) = [5#8] := by kernel_rfl
theorem j_m_e : joinE (M3.drop 1) = 0 := by kernel_rfl
theorem j_mix_e : joinE [⟨0, 1, 2, 3, [6#8]⟩, ⟨1, 2, 2, 3, [3#8]⟩] = 81 := by kernel_rfl
theorem x_m : shares_Explain.f 60 (M3.map sI) [1] = some ([], 80) := by kernel_rfl
theorem x_m1 : shares_Explain.f 60 ((M3.take 1).map sI) [9] = some ([15], 0) := by kernel_rfl
theorem S_sh {w : World} {base : Nat} {ok : Nat → Prop} {v : Value} {L : List Sh} (h : Kd.S k52 52 w base ok v (L.map sI)) (hp : 0 < L.length) : ∃ g cap, v = .slice (some ⟨g, 0, none⟩) L.length cap ∧ L.length ≤ cap ∧ Kd.C k52 w (some ⟨g, 0, none⟩) L.length (L.map sI) := by
  obtain ⟨g, cap, rfl, _⟩ := Kd.S_form h (by rwa [List.length_map])
  obtain ⟨_, h1, h2⟩ := Kd.S_reads' h
  rw [List.length_map] at h1 h2 ⊢
  exact ⟨g, cap, rfl, h1, h2⟩
theorem lit1 (w : World) (x : G) : RL gv (w.alloc (.cells #[gv x] 5)) (some ⟨w.heap.size, 0, none⟩) 1 [x] := RL.lit w _ [x] 1 rfl rfl (by omega)
theorem lit2 (w : World) (x y z : G) : RL gv ((w.alloc (.cells #[gv x, gv y] 5)).alloc (.cells #[gv z] 5)) (some ⟨w.heap.size, 0, none⟩) 2 [x, y] ∧ RL gv ((w.alloc (.cells #[gv x, gv y] 5)).alloc (.cells #[gv z] 5)) (some ⟨w.heap.size + 1, 0, none⟩) 1 [z] := by
  refine ⟨(RL.lit w _ [x, y] 2 rfl rfl (by omega)).below (below_alloc1 _ _), ?_⟩
  have := lit1 (w.alloc (.cells #[gv x, gv y] 5)) z
  rwa [show (w.alloc (.cells #[gv x, gv y] 5)).heap.size = w.heap.size + 1 by simp] at this
theorem lit11 (w : World) (x z : G) : RL gv ((w.alloc (.cells #[gv x] 5)).alloc (.cells #[gv z] 5)) (some ⟨w.heap.size, 0, none⟩) 1 [x] ∧ RL gv ((w.alloc (.cells #[gv x] 5)).alloc (.cells #[gv z] 5)) (some ⟨w.heap.size + 1, 0, none⟩) 1 [z] := by
  refine ⟨(lit1 w x).below (below_alloc1 _ _), ?_⟩
  have := lit1 (w.alloc (.cells #[gv x] 5)) z
  rwa [show (w.alloc (.cells #[gv x] 5)).heap.size = w.heap.size + 1 by simp] at this
theorem conv1 (w : World) (A : Option Addr) (c : Nat) (x : G) (S : ByteArray) (h : RL gv w A 1 [x]) (hS : strOfNums [tI x] = S) : (convert 30 9 (.slice A 1 c)).run Try.prog w = .ok (.string S) w := by
  obtain ⟨b, o, rfl, _, hc⟩ := h.at 0 (by omega)
  subst hS
  refine run_convert_bytes_arg w _ _ slice_u8 und_u8 b o 1 c [tI x] rfl (fun i hi => ?_) _ und_str
  match i, hi with
  | 0, _ => simpa [tI] using hc
theorem R_one {w : World} {base : Nat} {ok : Nat → Prop} {v : Value} (x : G) (h : Kd.R (Kd.int .u8) 5 w base ok v ([x].map tI)) : ∃ A c, v = .slice A 1 c ∧ RL gv w A 1 [x] := (own_of_R h).rl
theorem C_cells {w : World} {b o n i : Nat} {L : List Sh} (h : Kd.C k52 w (some ⟨b, o, none⟩) n (L.map sI)) (hi : i < L.length) (s : Sh) (hs : L[i] = s) : ∃ A c, w.cell? ⟨b, o + i * 5, none⟩ = some (.int .i64 s.ep) ∧ w.cell? ⟨b, o + i * 5 + 1, none⟩ = some (.int .i64 s.ix) ∧ w.cell? ⟨b, o + i * 5 + 2, none⟩ = some (.int .i64 s.th) ∧
    w.cell? ⟨b, o + i * 5 + 3, none⟩ = some (.int .i64 s.mn) ∧ w.cell? ⟨b, o + i * 5 + 4, none⟩ = some (.slice A s.da.length c) ∧ s.da.length ≤ c ∧ RL gv w A s.da.length s.da := by
  have hn : L.length = n := by have := h.1; rwa [List.length_map] at this
  have := at_T52 h (i : Int) (by omega) (by omega)
  rw [rdT_map L i hi, hs, Int.toNat_natCast] at this
  obtain ⟨ad, A, c, e, g0, g1, g2, g3, g4, g5, g6⟩ := this
  injection e with e; subst e
  rw [add_at] at g0 g1 g2 g3 g4
  rw [show (sI s).f4.length = s.da.length from by simp [sI]] at g4 g5 g6
  exact ⟨A, c, g0, g1, g2, g3, g4, g5, rl_of_C g6⟩
theorem C_two {w : World} {s t : Sh} {A B : Option Addr} {c d : Nat} (hc : s.da.length ≤ c) (hd : t.da.length ≤ d) (hA : RL gv w A s.da.length s.da) (hB : RL gv w B t.da.length t.da) :
    Kd.C k52 (w.alloc (.cells #[.int .i64 s.ep, .int .i64 s.ix, .int .i64 s.th, .int .i64 s.mn, .slice A s.da.length c, .int .i64 t.ep, .int .i64 t.ix, .int .i64 t.th, .int .i64 t.mn, .slice B t.da.length d] 52)) (some ⟨w.heap.size, 0, none⟩) 2 ([s, t].map sI) := by
  refine ⟨rfl, by omega, fun _ => ⟨_, rfl, fun j p hj => ?_⟩⟩
  have hb := below_alloc1 w (.cells #[.int .i64 s.ep, .int .i64 s.ix, .int .i64 s.th, .int .i64 s.mn, .slice A s.da.length c, .int .i64 t.ep, .int .i64 t.ix, .int .i64 t.th, .int .i64 t.mn, .slice B t.da.length d] 52)
  have mk : ∀ (u : Sh) (C : Option Addr) (e : Nat), u.da.length ≤ e → RL gv w C u.da.length u.da → k52.K _ (sI u) [.int .i64 u.ep, .int .i64 u.ix, .int .i64 u.th, .int .i64 u.mn, .slice C u.da.length e] := fun u C e he hC => by
    have := k52_mk _ (sI u) (A4 := C) (c4 := e) (by simpa [sI] using he) (by rw [show (sI u).f4.length = u.da.length from by simp [sI]]; exact C_of_rl (hC.below hb))
    rw [show (sI u).f4.length = u.da.length from by simp [sI]] at this
    exact this
  match j, hj with
  | 0, hj =>
    obtain rfl : sI s = p := by simpa using hj
    refine ⟨_, rfl, mk s A c hc hA, fun i u hu => ?_⟩
    rw [add_at, cell_new _ _ _ _ _ _ rfl]
    match i, hu with
    | 0, hu => exact hu
    | 1, hu => exact hu
    | 2, hu => exact hu
    | 3, hu => exact hu
    | 4, hu => exact hu
    | i + 5, hu => simp at hu
  | 1, hj =>
    obtain rfl : sI t = p := by simpa using hj
    refine ⟨_, rfl, mk t B d hd hB, fun i u hu => ?_⟩
    rw [add_at, cell_new _ _ _ _ _ _ rfl]
    match i, hu with
    | 0, hu => exact hu
    | 1, hu => exact hu
    | 2, hu => exact hu
    | 3, hu => exact hu
    | 4, hu => exact hu
    | i + 5, hu => simp at hu
  | j + 2, hj => simp at hj
set_option maxRecDepth 100000 in
set_option maxHeartbeats 4000000 in
theorem sane_s (w : World) : Calls Try.prog 23 #[] w fun e w' => e = .returned (.bool true) ∧ Below w.heap.size w w' := by
  go_enter Try.func23, Try.ntmps23
  go_wp2_with fail
  refine (join_u none 0 0 [] w ⟨rfl, by omega, fun h => by omega⟩ (by omega)).mono ?_
  rintro e w1 ⟨⟨v1, rfl, hv1⟩, hb1⟩
  rw [j_nil.2]
  clear hv1
  go_wp2_with fail
  obtain ⟨h1, h2⟩ := lit2 w1 1#8 2#8 1#8
  refine (split_bad _ _ 2 2 1 1 _ _ 0 2 3 _ h1 h2 (by omega) (by omega) 1 (by kernel_rfl) (by omega)).mono ?_
  rintro e w2 ⟨⟨v2, rfl, hv2⟩, hb2⟩
  have hB2 := bthen hb1 (bthen (balloc (below_alloc1 w1 _) _) hb2)
  clear hv2 h1 h2 hb2 hb1
  go_wp2_with fail
  refine (split_ok _ none 1 1 0 0 2 0 _ [] 4 _ (lit1 w2 7#8) (RL.nil _ _ _) (by omega) (by omega) (by omega) (by omega) (by omega) (by omega) (by omega)).mono ?_
  rintro e w3 ⟨⟨v3, rfl, hv3⟩, hb3⟩
  rw [l2_eq] at hv3
  obtain ⟨gl, cl, rfl, hcl, hL⟩ := S_sh hv3 (by decide)
  have hB3 := bthen hB2 (bthen (below_alloc1 w2 _) hb3)
  clear hv3 hb3 hB2
  have HL := Lib.hid hL
  clear hL
  rw [show L2.length = 2 from rfl] at *
  go_wp2_with fail
  obtain ⟨h1, h2⟩ := lit11 w3 5#8 3#8
  refine (split_ok _ _ 1 1 1 1 3 1 _ _ 0 _ h1 h2 (by omega) (by omega) (by omega) (by omega) (by omega) (by omega) (by omega)).mono ?_
  rintro e w4 ⟨⟨v4, rfl, hv4⟩, hb4⟩
  rw [m3_eq] at hv4
  obtain ⟨gm, cm, rfl, hcm, hM⟩ := S_sh hv4 (by decide)
  have hb34 := bthen (balloc (below_alloc1 w3 _) _) hb4
  have hB4 := bthen hB3 hb34
  replace HL := Lib.hid (Kd.C_below HL.out hb34)
  clear hv4 hb4 hB3 h1 h2 hb34
  have HM := Lib.hid hM
  clear hM
  rw [show M3.length = 3 from rfl] at *
  have hcm1 : ¬ cm = 1 := by omega
  go_wp2_with fail
  have hd : Kd.C k52 w4 (some ⟨gm, 5, none⟩) 2 ((M3.drop 1).map sI) := by
    have h := Kd.C_drop (m := 1) (c := cm) (k := k52) (xs := M3.map sI) HM.out (by decide) hcm
    rw [if_neg hcm1] at h
    exact h
  refine (join_u _ 2 _ (M3.drop 1) w4 hd (by omega)).mono ?_
  rintro e w5 ⟨⟨v5, rfl, hv5⟩, hb5⟩
  rw [j_m_e]
  rw [j_m] at hv5
  have hB5 := bthen hB4 hb5
  replace HL := Lib.hid (Kd.C_below HL.out hb5)
  replace HM := Lib.hid (Kd.C_below HM.out hb5)
  have HS := Lib.hid hv5
  clear hb5 hB4 hd hv5
  go_wp2_with fail
  have hx1 := shares_Explain.calls 60 (some ⟨gm, 0, none⟩) cm (M3.map sI) (some ⟨w5.heap.size, 0, none⟩) 1 [1] [] 80 (w5.alloc (.cells #[.int .u8 1] 5)) (Kd.C_below HM.out (below_alloc1 _ _)) hcm (C_of_rl (lit1 w5 1#8)) (by decide) x_m
  refine hx1.mono ?_
  rintro e w6 ⟨v6, rfl, hv6, hb6⟩
  have hb56 := bthen (below_alloc1 w5 _) hb6
  have hB6 := bthen hB5 hb56
  replace HL := Lib.hid (Kd.C_below HL.out hb56)
  replace HM := Lib.hid (Kd.C_below HM.out hb56)
  replace HS := Lib.hid (Kd.R_below HS.out hb56)
  clear hb56 hb6 hB5 hv6 hx1
  go_wp2_with fail
  refine (refresh_u _ _ 3 cm 1 1 M3 [0#8] _ (Kd.C_below HM.out (below_alloc1 _ _)) hcm (lit1 w6 0#8) (by omega) (by omega)).mono ?_
  rintro e w7 ⟨⟨v7, rfl, hv7⟩, hb7⟩
  rw [x3_e]
  rw [x3_eq] at hv7
  obtain ⟨gx_, cx, rfl, hcx, hX⟩ := S_sh hv7 (by decide)
  have hb67 := bthen (below_alloc1 w6 _) hb7
  have hB7 := bthen hB6 hb67
  replace HL := Lib.hid (Kd.C_below HL.out hb67)
  replace HM := Lib.hid (Kd.C_below HM.out hb67)
  replace HS := Lib.hid (Kd.R_below HS.out hb67)
  have HX := Lib.hid hX
  clear hb67 hb7 hB6 hv7 hX
  rw [show X3.length = 3 from rfl] at *
  go_wp2_with fail
  have hx2 := shares_Explain.calls 60 (some ⟨gm, 0, none⟩) cm ((M3.take 1).map sI) (some ⟨w7.heap.size, 0, none⟩) 1 [9] [15] 0 (w7.alloc (.cells #[.int .u8 9] 5)) (Kd.C_below (Kd.C_take (k := k52) (xs := M3.map sI) (m := 1) HM.out (by decide)) (below_alloc1 _ _)) (by show 1 ≤ cm; omega) (C_of_rl (lit1 w7 9#8)) (by decide) x_m1
  refine hx2.mono ?_
  rintro e w8 ⟨v8, rfl, hv8, hb8⟩
  have hb78 := bthen (below_alloc1 w7 _) hb8
  have hB8 := bthen hB7 hb78
  replace HL := Lib.hid (Kd.C_below HL.out hb78)
  replace HM := Lib.hid (Kd.C_below HM.out hb78)
  replace HX := Lib.hid (Kd.C_below HX.out hb78)
  replace HS := Lib.hid (Kd.R_below HS.out hb78)
  have HC := Lib.hid hv8
  clear hb78 hb8 hB7 hv8 hx2
  go_wp2_with fail
  obtain ⟨A0, c0, m0, m1, m2, m3, m4, m5, m6⟩ := C_cells HM.out (i := 0) (by decide) ⟨0, 1, 2, 3, [6#8]⟩ rfl
  obtain ⟨A1, c1, y0, y1, y2, y3, y4, y5, y6⟩ := C_cells HX.out (i := 1) (by decide) ⟨1, 2, 2, 3, [3#8]⟩ rfl
  simp only [Nat.zero_mul, Nat.zero_add, Nat.one_mul, Nat.add_zero, Nat.reduceAdd, List.length_cons, List.length_nil] at m0 m1 m2 m3 m4 m5 m6 y0 y1 y2 y3 y4 y5 y6
  have HS1 : Hid (∀ w', Below w8.heap.size w8 w' → w'.cell? ⟨gm, 0, none⟩ = some (.int .i64 0) ∧ w'.cell? ⟨gm, 1, none⟩ = some (.int .i64 1) ∧ w'.cell? ⟨gm, 2, none⟩ = some (.int .i64 2) ∧ w'.cell? ⟨gm, 3, none⟩ = some (.int .i64 3) ∧ w'.cell? ⟨gm, 4, none⟩ = some (.slice A0 1 c0) ∧
      w'.cell? ⟨gx_, 5, none⟩ = some (.int .i64 1) ∧ w'.cell? ⟨gx_, 6, none⟩ = some (.int .i64 2) ∧ w'.cell? ⟨gx_, 7, none⟩ = some (.int .i64 2) ∧ w'.cell? ⟨gx_, 8, none⟩ = some (.int .i64 3) ∧ w'.cell? ⟨gx_, 9, none⟩ = some (.slice A1 1 c1)) :=
    fun w' hb => ⟨pw_cell_below hb m0, pw_cell_below hb m1, pw_cell_below hb m2, pw_cell_below hb m3, pw_cell_below hb m4, pw_cell_below hb y0, pw_cell_below hb y1, pw_cell_below hb y2, pw_cell_below hb y3, pw_cell_below hb y4⟩
  have hbd : Below w8.heap.size w8 w8.drew := below_drew (Below.refl _ _)
  refine start_ (n := 13) (S := fun w' => w'.cell? ⟨gm, 0, none⟩ = some (.int .i64 0) ∧ w'.cell? ⟨gm, 1, none⟩ = some (.int .i64 1) ∧ w'.cell? ⟨gm, 2, none⟩ = some (.int .i64 2) ∧ w'.cell? ⟨gm, 3, none⟩ = some (.int .i64 3) ∧ w'.cell? ⟨gm, 4, none⟩ = some (.slice A0 1 c0) ∧
      w'.cell? ⟨gx_, 5, none⟩ = some (.int .i64 1) ∧ w'.cell? ⟨gx_, 6, none⟩ = some (.int .i64 2) ∧ w'.cell? ⟨gx_, 7, none⟩ = some (.int .i64 2) ∧ w'.cell? ⟨gx_, 8, none⟩ = some (.int .i64 3) ∧ w'.cell? ⟨gx_, 9, none⟩ = some (.slice A1 1 c1)) (ds := []) #[false, false, false, false, false, false, false, false, false, false, false, false, false] (by kernel_rfl) rfl rfl (HS1.out _ hbd) (fun hHeld => ?_)
  clear m0 m1 m2 m3 m4 y0 y1 y2 y3 y4
  generalize w8.drew = wd at *
  refine pure_ (i := 0) (N := some 110) (v := ?_) (a' := ?_) #[true, false, false, false, false, false, false, false, false, false, false, false, false] rfl rfl (by kernel_rfl) (fun _ _ _ h => h) (Or.inl ⟨by rfl, ?_⟩) ?_ ?_
  rotate_left
  · intro w'
    go_simp
    with_reducible rfl
  rotate_left
  · simp only [Act.put, List.setIfInBounds_toArray, List.set_cons_zero, List.set_cons_succ]
    rfl
  refine pure_ (i := 1) (N := some 111) (v := ?_) (a' := ?_) #[true, true, false, false, false, false, false, false, false, false, false, false, false] rfl rfl (by kernel_rfl) (fun _ _ _ h => h) (Or.inl ⟨by rfl, ?_⟩) ?_ ?_
  rotate_left
  · intro w'
    go_simp
    with_reducible rfl
  rotate_left
  · simp only [Act.put, List.setIfInBounds_toArray, List.set_cons_zero, List.set_cons_succ]
    rfl
  refine take_ (i := 2) (N := some 112) (v := ?_) (a' := ?_) #[true, true, true, false, false, false, false, false, false, false, false, false, false] rfl rfl (by kernel_rfl) (fun _ _ _ h => h) (Or.inl ⟨by rfl, ?_⟩) hHeld ?_ ?_
  rotate_left
  · intro w' hs
    obtain ⟨s0, s1, s2, s3, s4, s5, s6, s7, s8, s9⟩ := hs; go_simp
    with_reducible rfl
  rotate_left
  · simp only [Act.put, List.setIfInBounds_toArray, List.set_cons_zero, List.set_cons_succ]
    rfl
  refine pure_ (i := 3) (N := some 113) (v := ?_) (a' := ?_) #[true, true, true, true, false, false, false, false, false, false, false, false, false] rfl rfl (by kernel_rfl) (fun _ _ _ h => h) (Or.inl ⟨by rfl, ?_⟩) ?_ ?_
  rotate_left
  · intro w'
    go_simp
    with_reducible rfl
  rotate_left
  · simp only [Act.put, List.setIfInBounds_toArray, List.set_cons_zero, List.set_cons_succ]
    rfl
  refine pure_ (i := 4) (N := some 114) (v := ?_) (a' := ?_) #[true, true, true, true, true, false, false, false, false, false, false, false, false] rfl rfl (by kernel_rfl) (fun _ _ _ h => h) (Or.inl ⟨by rfl, ?_⟩) ?_ ?_
  rotate_left
  · intro w'
    go_simp
    with_reducible rfl
  rotate_left
  · simp only [Act.put, List.setIfInBounds_toArray, List.set_cons_zero, List.set_cons_succ]
    rfl
  refine take_ (i := 5) (N := some 115) (v := ?_) (a' := ?_) #[true, true, true, true, true, true, false, false, false, false, false, false, false] rfl rfl (by kernel_rfl) (fun _ _ _ h => h) (Or.inl ⟨by rfl, ?_⟩) hHeld ?_ ?_
  rotate_left
  · intro w' hs
    obtain ⟨s0, s1, s2, s3, s4, s5, s6, s7, s8, s9⟩ := hs; go_simp
    with_reducible rfl
  rotate_left
  · simp only [Act.put, List.setIfInBounds_toArray, List.set_cons_zero, List.set_cons_succ]
    rfl
  refine one_ (i := 6) (N := some 116) #[true, true, true, true, true, true, true, false, false, false, false, false, false] rfl rfl (by kernel_rfl) (by decide) (fun K hK => ?_)
  refine event_step (w1 := wd.alloc (.cells #[.int .i64 0, .int .i64 1, .int .i64 2, .int .i64 3, .slice A0 1 c0, .int .i64 1, .int .i64 2, .int .i64 2, .int .i64 3, .slice A1 1 c1] 52)) (v := .slice (some ⟨wd.heap.size, 0, none⟩) 2 2) (by rfl) (by first | (go_simp; done) | (go_simp; rfl)) ?_
  have hC2 := C_two (w := wd) (s := ⟨0, 1, 2, 3, [6#8]⟩) (t := ⟨1, 2, 2, 3, [3#8]⟩) m5 y5 (m6.below hbd) (y6.below hbd)
  have hb9 := bthen hbd (below_alloc1 wd (.cells #[.int .i64 0, .int .i64 1, .int .i64 2, .int .i64 3, .slice A0 1 c0, .int .i64 1, .int .i64 2, .int .i64 2, .int .i64 3, .slice A1 1 c1] 52))
  refine hK.out _ _ (HS1.out _ hb9) (fun hx_ => ?_)
  clear hK K hx_
  refine norm_ (a' := ?_) ?_ ?_
  rotate_left
  · show Act.put _ (some 116) _ = _
    simp only [Act.put, List.setIfInBounds_toArray, List.set_cons_zero, List.set_cons_succ]
    rfl
  refine one_ (i := 7) (N := some 117) #[true, true, true, true, true, true, true, true, false, false, false, false, false] rfl rfl (by kernel_rfl) (by decide) (fun K hK => ?_)
  refine goes_ Try.func30 (by kernel_rfl) rfl #[.slice (some ⟨wd.heap.size, 0, none⟩) 2 2] (by rfl) rfl rfl (by simp [Act.eval]) ?_
  refine (join_u _ 2 2 [⟨0, 1, 2, 3, [6#8]⟩, ⟨1, 2, 2, 3, [3#8]⟩] _ hC2 (by omega)).mono ?_
  rintro e w9 ⟨⟨v9, rfl, hv9⟩, hb9'⟩
  rw [j_mix_e]
  refine ⟨_, rfl, ?_⟩
  have hb89 := bthen hb9 hb9'
  refine hK.out _ _ (HS1.out _ hb89) (fun hx_ => ?_)
  clear hK K hx_
  refine norm_ (a' := ?_) ?_ ?_
  rotate_left
  · show Act.put _ (some 117) _ = _
    simp only [Act.put, List.setIfInBounds_toArray, List.set_cons_zero, List.set_cons_succ]
    rfl
  refine pure_ (i := 8) (N := some 109) (v := ?_) (a' := ?_) #[true, true, true, true, true, true, true, true, true, false, false, false, false] rfl rfl (by kernel_rfl) (fun _ _ _ h => h) (Or.inl ⟨by rfl, ?_⟩) ?_ ?_
  rotate_left
  · intro w'
    go_simp
    with_reducible rfl
  rotate_left
  · simp only [Act.put, List.setIfInBounds_toArray, List.set_cons_zero, List.set_cons_succ]
    rfl
  refine pure_ (i := 9) (N := some 118) (v := ?_) (a' := ?_) #[true, true, true, true, true, true, true, true, true, true, false, false, false] rfl rfl (by kernel_rfl) (fun _ _ _ h => h) (Or.inl ⟨by rfl, ?_⟩) ?_ ?_
  rotate_left
  · intro w'
    go_simp
    with_reducible rfl
  rotate_left
  · simp only [Act.put, List.setIfInBounds_toArray, List.set_cons_zero, List.set_cons_succ]
    rfl
  refine pure_ (i := 10) (N := some 119) (v := ?_) (a' := ?_) #[true, true, true, true, true, true, true, true, true, true, true, false, false] rfl rfl (by kernel_rfl) (fun _ _ _ h => h) (Or.inl ⟨by rfl, ?_⟩) ?_ ?_
  rotate_left
  · intro w'
    go_simp
    with_reducible rfl
  rotate_left
  · simp only [Act.put, List.setIfInBounds_toArray, List.set_cons_zero, List.set_cons_succ]
    rfl
  refine pure_ (i := 11) (N := some 17) (v := ?_) (a' := ?_) #[true, true, true, true, true, true, true, true, true, true, true, true, false] rfl rfl (by kernel_rfl) (fun _ _ _ h => h) (Or.inl ⟨by rfl, ?_⟩) ?_ ?_
  rotate_left
  · intro w'
    go_simp
    with_reducible rfl
  rotate_left
  · simp only [Act.put, List.setIfInBounds_toArray, List.set_cons_zero, List.set_cons_succ]
    rfl
  refine pure_ (i := 12) (N := some 18) (v := ?_) (a' := ?_) #[true, true, true, true, true, true, true, true, true, true, true, true, true] rfl rfl (by kernel_rfl) (fun _ _ _ h => h) (Or.inl ⟨by rfl, ?_⟩) ?_ ?_
  rotate_left
  · intro w'
    go_simp
    with_reducible rfl
  rotate_left
  · simp only [Act.put, List.setIfInBounds_toArray, List.set_cons_zero, List.set_cons_succ]
    rfl
  refine done_ (by kernel_rfl) ?_
  have hB9 := bthen hB8 hb89
  replace HL := Lib.hid (Kd.C_below HL.out hb89)
  replace HM := Lib.hid (Kd.C_below HM.out hb89)
  replace HX := Lib.hid (Kd.C_below HX.out hb89)
  replace HS := Lib.hid (Kd.R_below HS.out hb89)
  replace HC := Lib.hid (Kd.R_below HC.out hb89)
  clear hv9 hb89 hb9' hC2 m6 y6 HS1 hbd hHeld hb9
  obtain ⟨a0, b0, p0, p1, _, _, p4, _, p6⟩ := C_cells HL.out (i := 1) (by decide) ⟨4, 2, 1, 2, [7#8]⟩ rfl
  obtain ⟨a1, b1, _, _, _, _, q4, _, q6⟩ := C_cells HM.out (i := 0) (by decide) ⟨0, 1, 2, 3, [6#8]⟩ rfl
  obtain ⟨a2, b2, _, _, _, _, r4, _, r6⟩ := C_cells HM.out (i := 1) (by decide) ⟨0, 2, 2, 3, [3#8]⟩ rfl
  obtain ⟨a3, b3, _, _, _, _, t4, _, t6⟩ := C_cells HM.out (i := 2) (by decide) ⟨0, 3, 2, 3, [0#8]⟩ rfl
  obtain ⟨a4, b4, z0, _, _, _, z4, _, z6⟩ := C_cells HX.out (i := 2) (by decide) ⟨1, 3, 2, 3, [0#8]⟩ rfl
  obtain ⟨a5, b5, rfl, s6⟩ := R_one 5#8 HS.out
  obtain ⟨a6, b6, rfl, c6⟩ := R_one 15#8 HC.out
  simp only [Nat.zero_mul, Nat.zero_add, Nat.one_mul, Nat.add_zero, Nat.reduceAdd, Nat.reduceMul, List.length_cons, List.length_nil] at p0 p1 p4 p6 q4 q6 r4 r6 t4 t6 z0 z4 z6
  have v0 := conv1 w9 a0 b0 7#8 ⟨#[7]⟩ p6 rfl
  have v1' := conv1 w9 a1 b1 6#8 ⟨#[6]⟩ q6 rfl
  have v2' := conv1 w9 a2 b2 3#8 ⟨#[3]⟩ r6 rfl
  have v3 := conv1 w9 a3 b3 0#8 ⟨#[0]⟩ t6 rfl
  have v4 := conv1 w9 a4 b4 0#8 ⟨#[0]⟩ z6 rfl
  have v5' := conv1 w9 a5 b5 5#8 ⟨#[5]⟩ s6 rfl
  have v6' := conv1 w9 a6 b6 15#8 ⟨#[15]⟩ c6 rfl
  clear p6 q6 r6 t6 z6 s6 c6
  go_wp2_with fail
  go_ret
  exact ⟨rfl, hB9⟩
end Go.Proofs.Ytillfbohengpaaa
end
section
namespace Go.Proofs.Ytillfbohengpaaa.PA
open Go.RowKit Go.Proofs.YtillfbohengpaaaW.PrintWords Go.Proofs.YtillfbohengpaaaW.PrintLast Go.Proofs.YtillfbohengpaaaW.PrintMore
attribute [local go_sem] max2_int min2_int max_two min_two max_three min_three max_four min_four   -- for this text's walks alone
set_option linter.unusedVariables false
set_option linter.unusedSimpArgs false
def testamurlaw08_sane.f : Option Bool := some true
theorem testamurlaw08_sane.calls (r : Bool) (w : World) (h : testamurlaw08_sane.f = some r) :
    Calls Try.prog 23 #[] w fun e w' => e = .returned (.bool r) ∧ Below w.heap.size w w' := by
  injection h with h
  subst h
  exact sane_s w
end Go.Proofs.Ytillfbohengpaaa.PA
end
section
namespace Go.Proofs.Ytillfbohengpaaa.PA
open Go.RowKit Go.Proofs.YtillfbohengpaaaW.PrintWords Go.Proofs.YtillfbohengpaaaW.PrintLast Go.Proofs.YtillfbohengpaaaW.PrintMore
attribute [local go_sem] max2_int min2_int max_two min_two max_three min_three max_four min_four   -- for this text's walks alone
set_option linter.unusedVariables false
set_option linter.unusedSimpArgs false
def testamurlaw08_SharesSplitSpec.j0 : Nat → List (S52) → List Int → Int → Int → Int → List Int → Bool → Option (Bool)
  | 0, _, _, _, _, _, _, _ => none
  | k + 1, x0, x1, x2, x3, x4, x5, x31 => if x31 = true then (some true) else ((shares_Split.f x1 x2 x3 x4 x5).bind fun bt133 => ((testamurref08_Split.f k x1 x2 x3 x4 x5).bind fun bt137 => ((shares_Check.f x0).bind fun t141 => ((testamurref08_Check.f k x0).bind fun t142 => (if t141 = t142 then ((testamurref08_Same.f k bt133.1 bt137.1).bind fun t143 => (if t143 = true then (some (bt133.2 == bt137.2)) else (some false))) else (some false))))))
def testamurlaw08_SharesSplitSpec.f (k : Nat) (l0 : List (S52)) (l1 : List Int) (a2 : Int) (a3 : Int) (a4 : Int) (l5 : List Int) : Option (Bool) := (testamurlaw08_sane.f).bind fun t131 => (if t131 = true then ((testamurref08_Few.f k l0).bind fun t132 => (if t132 = true then (if (l1.length : Int) > 70 then (testamurlaw08_SharesSplitSpec.j0 k l0 l1 a2 a3 a4 l5 true) else (testamurlaw08_SharesSplitSpec.j0 k l0 l1 a2 a3 a4 l5 (decide ((l5.length : Int) > 600)))) else (testamurlaw08_SharesSplitSpec.j0 k l0 l1 a2 a3 a4 l5 true))) else (some false))
theorem testamurlaw08_SharesSplitSpec.mono_l : ∀ k, (∀ y0 y1 y2 y3 y4 y5 y6, LeO (testamurlaw08_SharesSplitSpec.j0 k y0 y1 y2 y3 y4 y5 y6) (testamurlaw08_SharesSplitSpec.j0 (k + 1) y0 y1 y2 y3 y4 y5 y6))
  | 0 => fun _ _ _ _ _ _ _ r h => by simp [testamurlaw08_SharesSplitSpec.j0] at h
  | k + 1 => by
    have ih0 := testamurlaw08_SharesSplitSpec.mono_l k
    · intro y0 y1 y2 y3 y4 y5 y6
      unfold testamurlaw08_SharesSplitSpec.j0
      repeat' first
      | (with_reducible exact ih0 _ _ _ _ _ _ _)
      | (with_reducible exact testamurref08_Check.mono _ _)
      | (with_reducible exact testamurref08_Few.mono _ _)
      | (with_reducible exact testamurref08_Same.mono _ _ _)
      | (with_reducible exact testamurref08_Split.mono _ _ _ _ _ _)
      | (with_reducible exact LeO.refl _)
      | (with_reducible exact LeO.none _)
      | (with_reducible refine LeO.ite ?_ ?_)
      | (with_reducible refine LeO.bind ?_ (fun _ => ?_))
      | exact ih0 _ _ _ _ _ _ _
      | exact testamurref08_Check.mono _ _
      | exact testamurref08_Few.mono _ _
      | exact testamurref08_Same.mono _ _ _
      | exact testamurref08_Split.mono _ _ _ _ _ _
      | exact LeO.none _
      | refine LeO.ite ?_ ?_
      | refine LeO.bind ?_ (fun _ => ?_)
theorem testamurlaw08_SharesSplitSpec.mono : ∀ a0 a1 a2 a3 a4 a5 k, LeO (testamurlaw08_SharesSplitSpec.f k a0 a1 a2 a3 a4 a5) (testamurlaw08_SharesSplitSpec.f (k + 1) a0 a1 a2 a3 a4 a5) := by
  intro a0 a1 a2 a3 a4 a5 k
  have ih0 := testamurlaw08_SharesSplitSpec.mono_l k
  unfold testamurlaw08_SharesSplitSpec.f
  repeat' first
      | (with_reducible exact ih0 _ _ _ _ _ _ _)
      | (with_reducible exact testamurref08_Check.mono _ _)
      | (with_reducible exact testamurref08_Few.mono _ _)
      | (with_reducible exact testamurref08_Same.mono _ _ _)
      | (with_reducible exact testamurref08_Split.mono _ _ _ _ _ _)
      | (with_reducible exact LeO.refl _)
      | (with_reducible exact LeO.none _)
      | (with_reducible refine LeO.ite ?_ ?_)
      | (with_reducible refine LeO.bind ?_ (fun _ => ?_))
      | exact ih0 _ _ _ _ _ _ _
      | exact testamurref08_Check.mono _ _
      | exact testamurref08_Few.mono _ _
      | exact testamurref08_Same.mono _ _ _
      | exact testamurref08_Split.mono _ _ _ _ _ _
      | exact LeO.none _
      | refine LeO.ite ?_ ?_
      | refine LeO.bind ?_ (fun _ => ?_)
set_option maxHeartbeats 8000000 in
set_option maxRecDepth 100000 in
theorem testamurlaw08_SharesSplitSpec.calls (k : Nat) (A0 : Option Addr) (c0 : Nat) (l0 : List (S52)) (A1 : Option Addr) (c1 : Nat) (l1 : List Int) (a2 : Int) (a3 : Int) (a4 : Int) (A5 : Option Addr) (c5 : Nat) (l5 : List Int) (r : Bool) (w : World) (hr0 : Kd.C k52 w A0 l0.length l0) (hc0 : l0.length ≤ c0) (hr1 : Kd.C (Kd.int .u8) w A1 l1.length l1) (hc1 : l1.length ≤ c1) (hr5 : Kd.C (Kd.int .u8) w A5 l5.length l5) (hc5 : l5.length ≤ c5) (h : testamurlaw08_SharesSplitSpec.f k l0 l1 a2 a3 a4 l5 = some r) :
    Calls Try.prog 8 #[.slice A0 l0.length c0, .slice A1 l1.length c1, .int .i64 a2, .int .i64 a3, .int .i64 a4, .slice A5 l5.length c5] w fun e w' => e = .returned (.bool r) ∧ Below w.heap.size w w' := by
  have HR0 := Aside0.mk hr0
  have HC0 := Aside0.mk hc0
  clear hr0 hc0
  have HR1 := Aside0.mk hr1
  have HC1 := Aside0.mk hc1
  clear hr1 hc1
  have HR5 := Aside0.mk hr5
  have HC5 := Aside0.mk hc5
  clear hr5 hc5
  have HB := Aside0.mk (Below.refl w.heap.size w)
  have H : ((testamurlaw08_sane.f).bind fun t131 => (if t131 = true then ((testamurref08_Few.f k l0).bind fun t132 => (if t132 = true then (if (l1.length : Int) > 70 then (testamurlaw08_SharesSplitSpec.j0 k l0 l1 a2 a3 a4 l5 true) else (testamurlaw08_SharesSplitSpec.j0 k l0 l1 a2 a3 a4 l5 (decide ((l5.length : Int) > 600)))) else (testamurlaw08_SharesSplitSpec.j0 k l0 l1 a2 a3 a4 l5 true))) else (some false))) = some r := h
  clear h
  replace H := Option.bind_eq_some_iff.mp H
  obtain ⟨t131, A70, H⟩ := H
  replace H : (if t131 = true then ((testamurref08_Few.f k l0).bind fun t132 => (if t132 = true then (if (l1.length : Int) > 70 then (testamurlaw08_SharesSplitSpec.j0 k l0 l1 a2 a3 a4 l5 true) else (testamurlaw08_SharesSplitSpec.j0 k l0 l1 a2 a3 a4 l5 (decide ((l5.length : Int) > 600)))) else (testamurlaw08_SharesSplitSpec.j0 k l0 l1 a2 a3 a4 l5 true))) else (some false)) = some r := H
  have A7 := Aside0.mk A70
  clear A70
  by_cases c8 : t131 = true
  · subst c8
    have H1 : ((testamurref08_Few.f k l0).bind fun t132 => (if t132 = true then (if (l1.length : Int) > 70 then (testamurlaw08_SharesSplitSpec.j0 k l0 l1 a2 a3 a4 l5 true) else (testamurlaw08_SharesSplitSpec.j0 k l0 l1 a2 a3 a4 l5 (decide ((l5.length : Int) > 600)))) else (testamurlaw08_SharesSplitSpec.j0 k l0 l1 a2 a3 a4 l5 true))) = some r := by rw [if_pos rfl] at H; exact H
    clear H
    have H := H1
    clear H1
    have HC9 := Aside0.mk H
    clear H
    go_enter Try.func8, Try.ntmps8
    go_upto_region 3 with (first | ((with_reducible refine gate_callee (f := 23) rfl ?_); refine goesL_ (some 17) rfl rfl Try.func23 (by kernel_rfl) rfl #[] rfl (by (try simp only [List.map_toArray, List.map_cons, List.map_nil]); first | done | rfl | (simp only [List.length_drop, List.length_take]; rfl)) ?_; (with_reducible refine (testamurlaw08_sane.calls  true _ A7.out).mono ?_); rintro e w10 ⟨rfl, hb⟩; refine ⟨_, rfl, ?_⟩; have n0_ := Aside0.mk (below_step (by repeat (first | (with_reducible first | exact HB.out | apply below_alloc | apply pw_below_drewN | apply below_drew1) | exact HB.out)) hb); clear HB; have HB := n0_; clear n0_; (try clear hb); (try clear hb2); (try clear hk); (try clear hi)))
    (try simp only [Act.put, List.setIfInBounds_toArray, List.set_cons_zero, List.set_cons_succ])
    go_cut [31] (fun v31 wc => ∃ (kq : Nat) (x31_8 : Bool), v31 = .bool x31_8 ∧ Aside0 (testamurlaw08_SharesSplitSpec.j0 kq l0 l1 a2 a3 a4 l5 x31_8 = some r) ∧ Aside0 (kq ≤ k) ∧ Aside0 (Below w.heap.size w wc))
    case first =>
      have H := HC9.out
      clear HC9
      replace H := Option.bind_eq_some_iff.mp H
      obtain ⟨t132, A110, H⟩ := H
      replace H : (if t132 = true then (if (l1.length : Int) > 70 then (testamurlaw08_SharesSplitSpec.j0 k l0 l1 a2 a3 a4 l5 true) else (testamurlaw08_SharesSplitSpec.j0 k l0 l1 a2 a3 a4 l5 (decide ((l5.length : Int) > 600)))) else (testamurlaw08_SharesSplitSpec.j0 k l0 l1 a2 a3 a4 l5 true)) = some r := H
      have A11 := Aside0.mk A110
      clear A110
      by_cases c12 : t132 = true
      · subst c12
        have H1 : (if (l1.length : Int) > 70 then (testamurlaw08_SharesSplitSpec.j0 k l0 l1 a2 a3 a4 l5 true) else (testamurlaw08_SharesSplitSpec.j0 k l0 l1 a2 a3 a4 l5 (decide ((l5.length : Int) > 600)))) = some r := by rw [if_pos rfl] at H; exact H
        clear H
        have H := H1
        clear H1
        by_cases c13 : (l1.length : Int) > 70
        · rw [if_pos c13] at H
          have c13b0 : decide (70 < (l1.length : Int)) = true := decide_eq_true c13
          have c13b1 : decide (70 < l1.length) = true := decide_eq_true (by omega)
          clear c13
          (first | rw [c13b0] | (simp only [i64_w, i32_w]; rw [c13b0]) | skip)
          have H' := Aside0.mk H
          clear H
          go_wp2_with (first | ((with_reducible refine gate_callee (f := 24) rfl ?_); refine goesL_ (some 20) rfl rfl Try.func24 (by kernel_rfl) rfl #[.slice A0 l0.length c0] rfl (by (try simp only [List.map_toArray, List.map_cons, List.map_nil]); first | done | rfl | (simp only [List.length_drop, List.length_take]; rfl)) ?_; (with_reducible refine (testamurref08_Few.calls k _ _ l0 true _ ?side1 ?side2 A11.out).mono ?_); (case side1 => repeat (first | exact (Kd.C_below HR0.out HB.out) | (with_reducible refine Kd.C_alloc ?_ _) | (with_reducible refine Kd.C_drewN ?_ _) | (with_reducible refine Kd.C_drew ?_))); (case side2 => exact HC0.out); rintro e w' ⟨rfl, ⟨nd, rfl⟩⟩; refine ⟨_, rfl, ?_⟩))
          go_meet
          case rel => exact ⟨_, (true), (by first | rfl | (simp; done) | (simp [*]; done)), H', ⟨by first | omega | exact Nat.le_refl _⟩, ⟨by repeat (first | (with_reducible first | exact HB.out | apply below_alloc | apply pw_below_drewN | apply below_drew1) | exact HB.out)⟩⟩
        · rw [if_neg c13] at H
          have c13b0 : decide (70 < (l1.length : Int)) = false := decide_eq_false c13
          have c13b1 : decide (70 < l1.length) = false := decide_eq_false (by omega)
          clear c13
          (first | rw [c13b0] | (simp only [i64_w, i32_w]; rw [c13b0]) | skip)
          have H' := Aside0.mk H
          clear H
          go_wp2_with (first | ((with_reducible refine gate_callee (f := 24) rfl ?_); refine goesL_ (some 20) rfl rfl Try.func24 (by kernel_rfl) rfl #[.slice A0 l0.length c0] rfl (by (try simp only [List.map_toArray, List.map_cons, List.map_nil]); first | done | rfl | (simp only [List.length_drop, List.length_take]; rfl)) ?_; (with_reducible refine (testamurref08_Few.calls k _ _ l0 true _ ?side1 ?side2 A11.out).mono ?_); (case side1 => repeat (first | exact (Kd.C_below HR0.out HB.out) | (with_reducible refine Kd.C_alloc ?_ _) | (with_reducible refine Kd.C_drewN ?_ _) | (with_reducible refine Kd.C_drew ?_))); (case side2 => exact HC0.out); rintro e w' ⟨rfl, ⟨nd, rfl⟩⟩; refine ⟨_, rfl, ?_⟩))
          go_meet
          case rel => exact ⟨_, (decide ((l5.length : Int) > 600)), (by first | rfl | (simp; done) | (simp [*]; done)), H', ⟨by first | omega | exact Nat.le_refl _⟩, ⟨by repeat (first | (with_reducible first | exact HB.out | apply below_alloc | apply pw_below_drewN | apply below_drew1) | exact HB.out)⟩⟩
      · replace c12 := Bool.eq_false_iff.mpr c12
        subst c12
        have H1 : (testamurlaw08_SharesSplitSpec.j0 k l0 l1 a2 a3 a4 l5 true) = some r := by rw [if_neg (show ¬ (false = true) by decide)] at H; exact H
        clear H
        have H := H1
        clear H1
        have H' := Aside0.mk H
        clear H
        go_wp2_with (first | ((with_reducible refine gate_callee (f := 24) rfl ?_); refine goesL_ (some 20) rfl rfl Try.func24 (by kernel_rfl) rfl #[.slice A0 l0.length c0] rfl (by (try simp only [List.map_toArray, List.map_cons, List.map_nil]); first | done | rfl | (simp only [List.length_drop, List.length_take]; rfl)) ?_; (with_reducible refine (testamurref08_Few.calls k _ _ l0 false _ ?side1 ?side2 A11.out).mono ?_); (case side1 => repeat (first | exact (Kd.C_below HR0.out HB.out) | (with_reducible refine Kd.C_alloc ?_ _) | (with_reducible refine Kd.C_drewN ?_ _) | (with_reducible refine Kd.C_drew ?_))); (case side2 => exact HC0.out); rintro e w' ⟨rfl, ⟨nd, rfl⟩⟩; refine ⟨_, rfl, ?_⟩))
        go_meet
        case rel => exact ⟨_, (true), (by first | rfl | (simp; done) | (simp [*]; done)), H', ⟨by first | omega | exact Nat.le_refl _⟩, ⟨by repeat (first | (with_reducible first | exact HB.out | apply below_alloc | apply pw_below_drewN | apply below_drew1) | exact HB.out)⟩⟩
    case rest =>
      clear HC9
      try clear c1
      try clear c2
      try clear p2
      try clear c5
      try clear c8
      try clear c12
      try clear c13
      try clear c13b0
      try clear c13b1
      obtain ⟨kq, x31_8, rfl, HA, HJ8, HB⟩ := hcut
      cases kq with
      | zero => exact absurd HA.out (by simp [testamurlaw08_SharesSplitSpec.j0])
      | succ kj8 =>
        have H := HA.out
        clear HA
        simp only [testamurlaw08_SharesSplitSpec.j0] at H
        by_cases c14 : x31_8 = true
        · subst c14
          have H1 : (some true) = some r := by rw [if_pos rfl] at H; exact H
          clear H
          have H := H1
          clear H1
          obtain rfl := Option.some.inj H
          go_wp2
          go_ret
          exact ⟨by first | rfl | (simp [errW_none, errW_some] <;> rfl) | (simp [*, errW_none, errW_some] <;> rfl), by repeat (first | (with_reducible first | exact HB.out | apply below_alloc | apply pw_below_drewN | apply below_drew1) | exact HB.out)⟩
        · replace c14 := Bool.eq_false_iff.mpr c14
          subst c14
          have H1 : ((shares_Split.f l1 a2 a3 a4 l5).bind fun bt133 => ((testamurref08_Split.f kj8 l1 a2 a3 a4 l5).bind fun bt137 => ((shares_Check.f l0).bind fun t141 => ((testamurref08_Check.f kj8 l0).bind fun t142 => (if t141 = t142 then ((testamurref08_Same.f kj8 bt133.1 bt137.1).bind fun t143 => (if t143 = true then (some (bt133.2 == bt137.2)) else (some false))) else (some false)))))) = some r := by rw [if_neg (show ¬ (false = true) by decide)] at H; exact H
          clear H
          have H := H1
          clear H1
          replace H := Option.bind_eq_some_iff.mp H
          obtain ⟨⟨t133, t134⟩, A150, H⟩ := H
          replace H : ((testamurref08_Split.f kj8 l1 a2 a3 a4 l5).bind fun bt137 => ((shares_Check.f l0).bind fun t141 => ((testamurref08_Check.f kj8 l0).bind fun t142 => (if t141 = t142 then ((testamurref08_Same.f kj8 t133 bt137.1).bind fun t143 => (if t143 = true then (some (t134 == bt137.2)) else (some false))) else (some false))))) = some r := H
          have A15 := Aside0.mk A150
          clear A150
          replace H := Option.bind_eq_some_iff.mp H
          obtain ⟨⟨t137, t138⟩, A160, H⟩ := H
          replace H : ((shares_Check.f l0).bind fun t141 => ((testamurref08_Check.f kj8 l0).bind fun t142 => (if t141 = t142 then ((testamurref08_Same.f kj8 t133 t137).bind fun t143 => (if t143 = true then (some (t134 == t138)) else (some false))) else (some false)))) = some r := H
          have A16 := Aside0.mk A160
          clear A160
          replace H := Option.bind_eq_some_iff.mp H
          obtain ⟨t141, A170, H⟩ := H
          replace H : ((testamurref08_Check.f kj8 l0).bind fun t142 => (if t141 = t142 then ((testamurref08_Same.f kj8 t133 t137).bind fun t143 => (if t143 = true then (some (t134 == t138)) else (some false))) else (some false))) = some r := H
          have A17 := Aside0.mk A170
          clear A170
          replace H := Option.bind_eq_some_iff.mp H
          obtain ⟨t142, A180, H⟩ := H
          replace H : (if t141 = t142 then ((testamurref08_Same.f kj8 t133 t137).bind fun t143 => (if t143 = true then (some (t134 == t138)) else (some false))) else (some false)) = some r := H
          have A18 := Aside0.mk A180
          clear A180
          by_cases c19 : t141 = t142
          · rw [if_pos c19] at H
            have c19b0 : (t141 == t142) = true := beq_iff_eq.mpr c19
            have c19b1 : (t141 != t142) = false := bne_eq_false_iff_eq.mpr c19
            clear c19
            replace H := Option.bind_eq_some_iff.mp H
            obtain ⟨t143, A200, H⟩ := H
            replace H : (if t143 = true then (some (t134 == t138)) else (some false)) = some r := H
            have A20 := Aside0.mk A200
            clear A200
            by_cases c21 : t143 = true
            · subst c21
              have H1 : (some (t134 == t138)) = some r := by rw [if_pos rfl] at H; exact H
              clear H
              have H := H1
              clear H1
              obtain rfl := Option.some.inj H
              go_wp2_with (first | ((with_reducible refine gate_callee (f := 25) rfl ?_); refine goesL_ (some 38) rfl rfl Try.func25 (by kernel_rfl) rfl #[.slice A1 l1.length c1, .int .i64 a2, .int .i64 a3, .int .i64 a4, .slice A5 l5.length c5] rfl (by (try simp only [List.map_toArray, List.map_cons, List.map_nil]); first | done | rfl | (simp only [List.length_drop, List.length_take]; rfl)) ?_; (with_reducible refine (shares_Split.calls _ _ l1 a2 a3 a4 _ _ l5 t133 t134 _ ?side1 ?side2 ?side3 ?side4 A15.out).mono ?_); (case side1 => repeat (first | exact (Kd.C_below HR1.out HB.out) | (with_reducible refine Kd.C_alloc ?_ _) | (with_reducible refine Kd.C_drewN ?_ _) | (with_reducible refine Kd.C_drew ?_))); (case side2 => exact HC1.out); (case side3 => repeat (first | exact (Kd.C_below HR5.out HB.out) | (with_reducible refine Kd.C_alloc ?_ _) | (with_reducible refine Kd.C_drewN ?_ _) | (with_reducible refine Kd.C_drew ?_))); (case side4 => exact HC5.out); rintro e w22 ⟨v135, rfl, ho0, hb⟩; refine ⟨_, rfl, ?_⟩; have n0_ := Aside0.mk (Kd.S_lower ho0 (below_size (by repeat (first | (with_reducible first | exact HB.out | apply below_alloc | apply pw_below_drewN | apply below_drew1) | exact HB.out)))); have n1_ := Aside0.mk (below_step (by repeat (first | (with_reducible first | exact HB.out | apply below_alloc | apply pw_below_drewN | apply below_drew1) | exact HB.out)) hb); clear HB; have HO136 := n0_; have HB := n1_; clear n0_ n1_; (try clear hb); (try clear hb2); (try clear hk); (try clear hi); (try clear ho0)) | ((with_reducible refine gate_callee (f := 26) rfl ?_); refine goesL_ (some 47) rfl rfl Try.func26 (by kernel_rfl) rfl #[.slice A1 l1.length c1, .int .i64 a2, .int .i64 a3, .int .i64 a4, .slice A5 l5.length c5] rfl (by (try simp only [List.map_toArray, List.map_cons, List.map_nil]); first | done | rfl | (simp only [List.length_drop, List.length_take]; rfl)) ?_; (with_reducible refine (testamurref08_Split.calls kj8 _ _ l1 a2 a3 a4 _ _ l5 t137 t138 _ ?side1 ?side2 ?side3 ?side4 A16.out).mono ?_); (case side1 => repeat (first | exact (Kd.C_below HR1.out HB.out) | (with_reducible refine Kd.C_alloc ?_ _) | (with_reducible refine Kd.C_drewN ?_ _) | (with_reducible refine Kd.C_drew ?_))); (case side2 => exact HC1.out); (case side3 => repeat (first | exact (Kd.C_below HR5.out HB.out) | (with_reducible refine Kd.C_alloc ?_ _) | (with_reducible refine Kd.C_drewN ?_ _) | (with_reducible refine Kd.C_drew ?_))); (case side4 => exact HC5.out); rintro e w23 ⟨v139, rfl, ho0, hb⟩; refine ⟨_, rfl, ?_⟩; have n0_ := Aside0.mk (Kd.S_elder' (by (with_reducible repeat (first | apply Kd.S_alloc | apply Kd.S_drewN | apply Kd.S_drew)); exact HO136.out) (Kd.S_base ho0) hb); have n1_ := Aside0.mk (Kd.S_lower (Kd.S_new' ho0 (Kd.S_lt (by (with_reducible repeat (first | apply Kd.S_alloc | apply Kd.S_drewN | apply Kd.S_drew)); exact HO136.out))) (below_size (by repeat (first | (with_reducible first | exact HB.out | apply below_alloc | apply pw_below_drewN | apply below_drew1) | exact HB.out)))); have n2_ := Aside0.mk (below_step (by repeat (first | (with_reducible first | exact HB.out | apply below_alloc | apply pw_below_drewN | apply below_drew1) | exact HB.out)) hb); clear HO136; clear HB; have HO136 := n0_; have HO140 := n1_; have HB := n2_; clear n0_ n1_ n2_; (try clear hb); (try clear hb2); (try clear hk); (try clear hi); (try clear ho0)) | ((with_reducible refine gate_callee (f := 27) rfl ?_); refine goesL_ (some 51) rfl rfl Try.func27 (by kernel_rfl) rfl #[.slice A0 l0.length c0] rfl (by (try simp only [List.map_toArray, List.map_cons, List.map_nil]); first | done | rfl | (simp only [List.length_drop, List.length_take]; rfl)) ?_; (with_reducible refine (shares_Check.calls _ _ l0 t141 _ ?side1 ?side2 A17.out).mono ?_); (case side1 => repeat (first | exact (Kd.C_below HR0.out HB.out) | (with_reducible refine Kd.C_alloc ?_ _) | (with_reducible refine Kd.C_drewN ?_ _) | (with_reducible refine Kd.C_drew ?_))); (case side2 => exact HC0.out); rintro e w24 ⟨rfl, hb⟩; refine ⟨_, rfl, ?_⟩; have n0_ := Aside0.mk (Kd.S_below (by (with_reducible repeat (first | apply Kd.S_alloc | apply Kd.S_drewN | apply Kd.S_drew)); exact HO136.out) hb); have n1_ := Aside0.mk (Kd.S_below (by (with_reducible repeat (first | apply Kd.S_alloc | apply Kd.S_drewN | apply Kd.S_drew)); exact HO140.out) hb); have n2_ := Aside0.mk (below_step (by repeat (first | (with_reducible first | exact HB.out | apply below_alloc | apply pw_below_drewN | apply below_drew1) | exact HB.out)) hb); clear HO136; clear HO140; clear HB; have HO136 := n0_; have HO140 := n1_; have HB := n2_; clear n0_ n1_ n2_; (try clear hb); (try clear hb2); (try clear hk); (try clear hi)) | ((with_reducible refine gate_callee (f := 28) rfl ?_); refine goesL_ (some 53) rfl rfl Try.func28 (by kernel_rfl) rfl #[.slice A0 l0.length c0] rfl (by (try simp only [List.map_toArray, List.map_cons, List.map_nil]); first | done | rfl | (simp only [List.length_drop, List.length_take]; rfl)) ?_; (with_reducible refine (testamurref08_Check.calls kj8 _ _ l0 t142 _ ?side1 ?side2 A18.out).mono ?_); (case side1 => repeat (first | exact (Kd.C_below HR0.out HB.out) | (with_reducible refine Kd.C_alloc ?_ _) | (with_reducible refine Kd.C_drewN ?_ _) | (with_reducible refine Kd.C_drew ?_))); (case side2 => exact HC0.out); rintro e w25 ⟨rfl, hb⟩; refine ⟨_, rfl, ?_⟩; have n0_ := Aside0.mk (Kd.S_below (by (with_reducible repeat (first | apply Kd.S_alloc | apply Kd.S_drewN | apply Kd.S_drew)); exact HO136.out) hb); have n1_ := Aside0.mk (Kd.S_below (by (with_reducible repeat (first | apply Kd.S_alloc | apply Kd.S_drewN | apply Kd.S_drew)); exact HO140.out) hb); have n2_ := Aside0.mk (below_step (by repeat (first | (with_reducible first | exact HB.out | apply below_alloc | apply pw_below_drewN | apply below_drew1) | exact HB.out)) hb); clear HO136; clear HO140; clear HB; have HO136 := n0_; have HO140 := n1_; have HB := n2_; clear n0_ n1_ n2_; (try clear hb); (try clear hb2); (try clear hk); (try clear hi); obtain ⟨Ao26, co26, eo26⟩ := Kd.S_slice HO136.out; subst eo26; obtain ⟨Ao27, co27, eo27⟩ := Kd.S_slice HO140.out; subst eo27) | (go_at_call 29; (with_reducible refine (testamurref08_Same.calls kj8 _ _ t133 _ _ t137 true _ ?side1 ?side2 ?side3 ?side4 A20.out).mono ?_); (case side1 => repeat (first | exact (Kd.S_reads' HO136.out).2.2 | (with_reducible refine Kd.C_alloc ?_ _) | (with_reducible refine Kd.C_drewN ?_ _) | (with_reducible refine Kd.C_drew ?_))); (case side2 => exact (Kd.S_reads' HO136.out).2.1); (case side3 => repeat (first | exact (Kd.S_reads' HO140.out).2.2 | (with_reducible refine Kd.C_alloc ?_ _) | (with_reducible refine Kd.C_drewN ?_ _) | (with_reducible refine Kd.C_drew ?_))); (case side4 => exact (Kd.S_reads' HO140.out).2.1); rintro e w28 ⟨rfl, hb⟩; have n0_ := Aside0.mk (Kd.S_below (by (with_reducible repeat (first | apply Kd.S_alloc | apply Kd.S_drewN | apply Kd.S_drew)); exact HO136.out) hb); have n1_ := Aside0.mk (Kd.S_below (by (with_reducible repeat (first | apply Kd.S_alloc | apply Kd.S_drewN | apply Kd.S_drew)); exact HO140.out) hb); have n2_ := Aside0.mk (below_step (by repeat (first | (with_reducible first | exact HB.out | apply below_alloc | apply pw_below_drewN | apply below_drew1) | exact HB.out)) hb); clear HO136; clear HO140; clear HB; have HO136 := n0_; have HO140 := n1_; have HB := n2_; clear n0_ n1_ n2_; (try clear hb); (try clear hb2); (try clear hk); (try clear hi)))
              go_ret
              exact ⟨by first | rfl | (simp [errW_none, errW_some] <;> rfl) | (simp [*, errW_none, errW_some] <;> rfl), by repeat (first | (with_reducible first | exact HB.out | apply below_alloc | apply pw_below_drewN | apply below_drew1) | exact HB.out)⟩
            · replace c21 := Bool.eq_false_iff.mpr c21
              subst c21
              have H1 : (some false) = some r := by rw [if_neg (show ¬ (false = true) by decide)] at H; exact H
              clear H
              have H := H1
              clear H1
              obtain rfl := Option.some.inj H
              go_wp2_with (first | ((with_reducible refine gate_callee (f := 25) rfl ?_); refine goesL_ (some 38) rfl rfl Try.func25 (by kernel_rfl) rfl #[.slice A1 l1.length c1, .int .i64 a2, .int .i64 a3, .int .i64 a4, .slice A5 l5.length c5] rfl (by (try simp only [List.map_toArray, List.map_cons, List.map_nil]); first | done | rfl | (simp only [List.length_drop, List.length_take]; rfl)) ?_; (with_reducible refine (shares_Split.calls _ _ l1 a2 a3 a4 _ _ l5 t133 t134 _ ?side1 ?side2 ?side3 ?side4 A15.out).mono ?_); (case side1 => repeat (first | exact (Kd.C_below HR1.out HB.out) | (with_reducible refine Kd.C_alloc ?_ _) | (with_reducible refine Kd.C_drewN ?_ _) | (with_reducible refine Kd.C_drew ?_))); (case side2 => exact HC1.out); (case side3 => repeat (first | exact (Kd.C_below HR5.out HB.out) | (with_reducible refine Kd.C_alloc ?_ _) | (with_reducible refine Kd.C_drewN ?_ _) | (with_reducible refine Kd.C_drew ?_))); (case side4 => exact HC5.out); rintro e w29 ⟨v135, rfl, ho0, hb⟩; refine ⟨_, rfl, ?_⟩; have n0_ := Aside0.mk (Kd.S_lower ho0 (below_size (by repeat (first | (with_reducible first | exact HB.out | apply below_alloc | apply pw_below_drewN | apply below_drew1) | exact HB.out)))); have n1_ := Aside0.mk (below_step (by repeat (first | (with_reducible first | exact HB.out | apply below_alloc | apply pw_below_drewN | apply below_drew1) | exact HB.out)) hb); clear HB; have HO136 := n0_; have HB := n1_; clear n0_ n1_; (try clear hb); (try clear hb2); (try clear hk); (try clear hi); (try clear ho0)) | ((with_reducible refine gate_callee (f := 26) rfl ?_); refine goesL_ (some 47) rfl rfl Try.func26 (by kernel_rfl) rfl #[.slice A1 l1.length c1, .int .i64 a2, .int .i64 a3, .int .i64 a4, .slice A5 l5.length c5] rfl (by (try simp only [List.map_toArray, List.map_cons, List.map_nil]); first | done | rfl | (simp only [List.length_drop, List.length_take]; rfl)) ?_; (with_reducible refine (testamurref08_Split.calls kj8 _ _ l1 a2 a3 a4 _ _ l5 t137 t138 _ ?side1 ?side2 ?side3 ?side4 A16.out).mono ?_); (case side1 => repeat (first | exact (Kd.C_below HR1.out HB.out) | (with_reducible refine Kd.C_alloc ?_ _) | (with_reducible refine Kd.C_drewN ?_ _) | (with_reducible refine Kd.C_drew ?_))); (case side2 => exact HC1.out); (case side3 => repeat (first | exact (Kd.C_below HR5.out HB.out) | (with_reducible refine Kd.C_alloc ?_ _) | (with_reducible refine Kd.C_drewN ?_ _) | (with_reducible refine Kd.C_drew ?_))); (case side4 => exact HC5.out); rintro e w30 ⟨v139, rfl, ho0, hb⟩; refine ⟨_, rfl, ?_⟩; have n0_ := Aside0.mk (Kd.S_elder' (by (with_reducible repeat (first | apply Kd.S_alloc | apply Kd.S_drewN | apply Kd.S_drew)); exact HO136.out) (Kd.S_base ho0) hb); have n1_ := Aside0.mk (Kd.S_lower (Kd.S_new' ho0 (Kd.S_lt (by (with_reducible repeat (first | apply Kd.S_alloc | apply Kd.S_drewN | apply Kd.S_drew)); exact HO136.out))) (below_size (by repeat (first | (with_reducible first | exact HB.out | apply below_alloc | apply pw_below_drewN | apply below_drew1) | exact HB.out)))); have n2_ := Aside0.mk (below_step (by repeat (first | (with_reducible first | exact HB.out | apply below_alloc | apply pw_below_drewN | apply below_drew1) | exact HB.out)) hb); clear HO136; clear HB; have HO136 := n0_; have HO140 := n1_; have HB := n2_; clear n0_ n1_ n2_; (try clear hb); (try clear hb2); (try clear hk); (try clear hi); (try clear ho0)) | ((with_reducible refine gate_callee (f := 27) rfl ?_); refine goesL_ (some 51) rfl rfl Try.func27 (by kernel_rfl) rfl #[.slice A0 l0.length c0] rfl (by (try simp only [List.map_toArray, List.map_cons, List.map_nil]); first | done | rfl | (simp only [List.length_drop, List.length_take]; rfl)) ?_; (with_reducible refine (shares_Check.calls _ _ l0 t141 _ ?side1 ?side2 A17.out).mono ?_); (case side1 => repeat (first | exact (Kd.C_below HR0.out HB.out) | (with_reducible refine Kd.C_alloc ?_ _) | (with_reducible refine Kd.C_drewN ?_ _) | (with_reducible refine Kd.C_drew ?_))); (case side2 => exact HC0.out); rintro e w31 ⟨rfl, hb⟩; refine ⟨_, rfl, ?_⟩; have n0_ := Aside0.mk (Kd.S_below (by (with_reducible repeat (first | apply Kd.S_alloc | apply Kd.S_drewN | apply Kd.S_drew)); exact HO136.out) hb); have n1_ := Aside0.mk (Kd.S_below (by (with_reducible repeat (first | apply Kd.S_alloc | apply Kd.S_drewN | apply Kd.S_drew)); exact HO140.out) hb); have n2_ := Aside0.mk (below_step (by repeat (first | (with_reducible first | exact HB.out | apply below_alloc | apply pw_below_drewN | apply below_drew1) | exact HB.out)) hb); clear HO136; clear HO140; clear HB; have HO136 := n0_; have HO140 := n1_; have HB := n2_; clear n0_ n1_ n2_; (try clear hb); (try clear hb2); (try clear hk); (try clear hi)) | ((with_reducible refine gate_callee (f := 28) rfl ?_); refine goesL_ (some 53) rfl rfl Try.func28 (by kernel_rfl) rfl #[.slice A0 l0.length c0] rfl (by (try simp only [List.map_toArray, List.map_cons, List.map_nil]); first | done | rfl | (simp only [List.length_drop, List.length_take]; rfl)) ?_; (with_reducible refine (testamurref08_Check.calls kj8 _ _ l0 t142 _ ?side1 ?side2 A18.out).mono ?_); (case side1 => repeat (first | exact (Kd.C_below HR0.out HB.out) | (with_reducible refine Kd.C_alloc ?_ _) | (with_reducible refine Kd.C_drewN ?_ _) | (with_reducible refine Kd.C_drew ?_))); (case side2 => exact HC0.out); rintro e w32 ⟨rfl, hb⟩; refine ⟨_, rfl, ?_⟩; have n0_ := Aside0.mk (Kd.S_below (by (with_reducible repeat (first | apply Kd.S_alloc | apply Kd.S_drewN | apply Kd.S_drew)); exact HO136.out) hb); have n1_ := Aside0.mk (Kd.S_below (by (with_reducible repeat (first | apply Kd.S_alloc | apply Kd.S_drewN | apply Kd.S_drew)); exact HO140.out) hb); have n2_ := Aside0.mk (below_step (by repeat (first | (with_reducible first | exact HB.out | apply below_alloc | apply pw_below_drewN | apply below_drew1) | exact HB.out)) hb); clear HO136; clear HO140; clear HB; have HO136 := n0_; have HO140 := n1_; have HB := n2_; clear n0_ n1_ n2_; (try clear hb); (try clear hb2); (try clear hk); (try clear hi); obtain ⟨Ao33, co33, eo33⟩ := Kd.S_slice HO136.out; subst eo33; obtain ⟨Ao34, co34, eo34⟩ := Kd.S_slice HO140.out; subst eo34) | (go_at_call 29; (with_reducible refine (testamurref08_Same.calls kj8 _ _ t133 _ _ t137 false _ ?side1 ?side2 ?side3 ?side4 A20.out).mono ?_); (case side1 => repeat (first | exact (Kd.S_reads' HO136.out).2.2 | (with_reducible refine Kd.C_alloc ?_ _) | (with_reducible refine Kd.C_drewN ?_ _) | (with_reducible refine Kd.C_drew ?_))); (case side2 => exact (Kd.S_reads' HO136.out).2.1); (case side3 => repeat (first | exact (Kd.S_reads' HO140.out).2.2 | (with_reducible refine Kd.C_alloc ?_ _) | (with_reducible refine Kd.C_drewN ?_ _) | (with_reducible refine Kd.C_drew ?_))); (case side4 => exact (Kd.S_reads' HO140.out).2.1); rintro e w35 ⟨rfl, hb⟩; have n0_ := Aside0.mk (Kd.S_below (by (with_reducible repeat (first | apply Kd.S_alloc | apply Kd.S_drewN | apply Kd.S_drew)); exact HO136.out) hb); have n1_ := Aside0.mk (Kd.S_below (by (with_reducible repeat (first | apply Kd.S_alloc | apply Kd.S_drewN | apply Kd.S_drew)); exact HO140.out) hb); have n2_ := Aside0.mk (below_step (by repeat (first | (with_reducible first | exact HB.out | apply below_alloc | apply pw_below_drewN | apply below_drew1) | exact HB.out)) hb); clear HO136; clear HO140; clear HB; have HO136 := n0_; have HO140 := n1_; have HB := n2_; clear n0_ n1_ n2_; (try clear hb); (try clear hb2); (try clear hk); (try clear hi)))
              go_ret
              exact ⟨by first | rfl | (simp [errW_none, errW_some] <;> rfl) | (simp [*, errW_none, errW_some] <;> rfl), by repeat (first | (with_reducible first | exact HB.out | apply below_alloc | apply pw_below_drewN | apply below_drew1) | exact HB.out)⟩
          · rw [if_neg c19] at H
            have c19b0 : (t141 == t142) = false := beq_eq_false_iff_ne.mpr c19
            have c19b1 : (t141 != t142) = true := bne_iff_ne.mpr c19
            obtain rfl := Option.some.inj H
            go_wp2_with (first | ((with_reducible refine gate_callee (f := 25) rfl ?_); refine goesL_ (some 38) rfl rfl Try.func25 (by kernel_rfl) rfl #[.slice A1 l1.length c1, .int .i64 a2, .int .i64 a3, .int .i64 a4, .slice A5 l5.length c5] rfl (by (try simp only [List.map_toArray, List.map_cons, List.map_nil]); first | done | rfl | (simp only [List.length_drop, List.length_take]; rfl)) ?_; (with_reducible refine (shares_Split.calls _ _ l1 a2 a3 a4 _ _ l5 t133 t134 _ ?side1 ?side2 ?side3 ?side4 A15.out).mono ?_); (case side1 => repeat (first | exact (Kd.C_below HR1.out HB.out) | (with_reducible refine Kd.C_alloc ?_ _) | (with_reducible refine Kd.C_drewN ?_ _) | (with_reducible refine Kd.C_drew ?_))); (case side2 => exact HC1.out); (case side3 => repeat (first | exact (Kd.C_below HR5.out HB.out) | (with_reducible refine Kd.C_alloc ?_ _) | (with_reducible refine Kd.C_drewN ?_ _) | (with_reducible refine Kd.C_drew ?_))); (case side4 => exact HC5.out); rintro e w36 ⟨v135, rfl, ho0, hb⟩; refine ⟨_, rfl, ?_⟩; have n0_ := Aside0.mk (Kd.S_lower ho0 (below_size (by repeat (first | (with_reducible first | exact HB.out | apply below_alloc | apply pw_below_drewN | apply below_drew1) | exact HB.out)))); have n1_ := Aside0.mk (below_step (by repeat (first | (with_reducible first | exact HB.out | apply below_alloc | apply pw_below_drewN | apply below_drew1) | exact HB.out)) hb); clear HB; have HO136 := n0_; have HB := n1_; clear n0_ n1_; (try clear hb); (try clear hb2); (try clear hk); (try clear hi); (try clear ho0)) | ((with_reducible refine gate_callee (f := 26) rfl ?_); refine goesL_ (some 47) rfl rfl Try.func26 (by kernel_rfl) rfl #[.slice A1 l1.length c1, .int .i64 a2, .int .i64 a3, .int .i64 a4, .slice A5 l5.length c5] rfl (by (try simp only [List.map_toArray, List.map_cons, List.map_nil]); first | done | rfl | (simp only [List.length_drop, List.length_take]; rfl)) ?_; (with_reducible refine (testamurref08_Split.calls kj8 _ _ l1 a2 a3 a4 _ _ l5 t137 t138 _ ?side1 ?side2 ?side3 ?side4 A16.out).mono ?_); (case side1 => repeat (first | exact (Kd.C_below HR1.out HB.out) | (with_reducible refine Kd.C_alloc ?_ _) | (with_reducible refine Kd.C_drewN ?_ _) | (with_reducible refine Kd.C_drew ?_))); (case side2 => exact HC1.out); (case side3 => repeat (first | exact (Kd.C_below HR5.out HB.out) | (with_reducible refine Kd.C_alloc ?_ _) | (with_reducible refine Kd.C_drewN ?_ _) | (with_reducible refine Kd.C_drew ?_))); (case side4 => exact HC5.out); rintro e w37 ⟨v139, rfl, ho0, hb⟩; refine ⟨_, rfl, ?_⟩; have n0_ := Aside0.mk (Kd.S_elder' (by (with_reducible repeat (first | apply Kd.S_alloc | apply Kd.S_drewN | apply Kd.S_drew)); exact HO136.out) (Kd.S_base ho0) hb); have n1_ := Aside0.mk (Kd.S_lower (Kd.S_new' ho0 (Kd.S_lt (by (with_reducible repeat (first | apply Kd.S_alloc | apply Kd.S_drewN | apply Kd.S_drew)); exact HO136.out))) (below_size (by repeat (first | (with_reducible first | exact HB.out | apply below_alloc | apply pw_below_drewN | apply below_drew1) | exact HB.out)))); have n2_ := Aside0.mk (below_step (by repeat (first | (with_reducible first | exact HB.out | apply below_alloc | apply pw_below_drewN | apply below_drew1) | exact HB.out)) hb); clear HO136; clear HB; have HO136 := n0_; have HO140 := n1_; have HB := n2_; clear n0_ n1_ n2_; (try clear hb); (try clear hb2); (try clear hk); (try clear hi); (try clear ho0)) | ((with_reducible refine gate_callee (f := 27) rfl ?_); refine goesL_ (some 51) rfl rfl Try.func27 (by kernel_rfl) rfl #[.slice A0 l0.length c0] rfl (by (try simp only [List.map_toArray, List.map_cons, List.map_nil]); first | done | rfl | (simp only [List.length_drop, List.length_take]; rfl)) ?_; (with_reducible refine (shares_Check.calls _ _ l0 t141 _ ?side1 ?side2 A17.out).mono ?_); (case side1 => repeat (first | exact (Kd.C_below HR0.out HB.out) | (with_reducible refine Kd.C_alloc ?_ _) | (with_reducible refine Kd.C_drewN ?_ _) | (with_reducible refine Kd.C_drew ?_))); (case side2 => exact HC0.out); rintro e w38 ⟨rfl, hb⟩; refine ⟨_, rfl, ?_⟩; have n0_ := Aside0.mk (Kd.S_below (by (with_reducible repeat (first | apply Kd.S_alloc | apply Kd.S_drewN | apply Kd.S_drew)); exact HO136.out) hb); have n1_ := Aside0.mk (Kd.S_below (by (with_reducible repeat (first | apply Kd.S_alloc | apply Kd.S_drewN | apply Kd.S_drew)); exact HO140.out) hb); have n2_ := Aside0.mk (below_step (by repeat (first | (with_reducible first | exact HB.out | apply below_alloc | apply pw_below_drewN | apply below_drew1) | exact HB.out)) hb); clear HO136; clear HO140; clear HB; have HO136 := n0_; have HO140 := n1_; have HB := n2_; clear n0_ n1_ n2_; (try clear hb); (try clear hb2); (try clear hk); (try clear hi)) | ((with_reducible refine gate_callee (f := 28) rfl ?_); refine goesL_ (some 53) rfl rfl Try.func28 (by kernel_rfl) rfl #[.slice A0 l0.length c0] rfl (by (try simp only [List.map_toArray, List.map_cons, List.map_nil]); first | done | rfl | (simp only [List.length_drop, List.length_take]; rfl)) ?_; (with_reducible refine (testamurref08_Check.calls kj8 _ _ l0 t142 _ ?side1 ?side2 A18.out).mono ?_); (case side1 => repeat (first | exact (Kd.C_below HR0.out HB.out) | (with_reducible refine Kd.C_alloc ?_ _) | (with_reducible refine Kd.C_drewN ?_ _) | (with_reducible refine Kd.C_drew ?_))); (case side2 => exact HC0.out); rintro e w39 ⟨rfl, hb⟩; refine ⟨_, rfl, ?_⟩; have n0_ := Aside0.mk (Kd.S_below (by (with_reducible repeat (first | apply Kd.S_alloc | apply Kd.S_drewN | apply Kd.S_drew)); exact HO136.out) hb); have n1_ := Aside0.mk (Kd.S_below (by (with_reducible repeat (first | apply Kd.S_alloc | apply Kd.S_drewN | apply Kd.S_drew)); exact HO140.out) hb); have n2_ := Aside0.mk (below_step (by repeat (first | (with_reducible first | exact HB.out | apply below_alloc | apply pw_below_drewN | apply below_drew1) | exact HB.out)) hb); clear HO136; clear HO140; clear HB; have HO136 := n0_; have HO140 := n1_; have HB := n2_; clear n0_ n1_ n2_; (try clear hb); (try clear hb2); (try clear hk); (try clear hi)))
            go_ret
            exact ⟨by first | rfl | (simp [errW_none, errW_some] <;> rfl) | (simp [*, errW_none, errW_some] <;> rfl), by repeat (first | (with_reducible first | exact HB.out | apply below_alloc | apply pw_below_drewN | apply below_drew1) | exact HB.out)⟩
  · replace c8 := Bool.eq_false_iff.mpr c8
    subst c8
    have H1 : (some false) = some r := by rw [if_neg (show ¬ (false = true) by decide)] at H; exact H
    clear H
    have H := H1
    clear H1
    obtain rfl := Option.some.inj H
    go_enter Try.func8, Try.ntmps8
    go_wp2_with (first | ((with_reducible refine gate_callee (f := 23) rfl ?_); refine goesL_ (some 17) rfl rfl Try.func23 (by kernel_rfl) rfl #[] rfl (by (try simp only [List.map_toArray, List.map_cons, List.map_nil]); first | done | rfl | (simp only [List.length_drop, List.length_take]; rfl)) ?_; (with_reducible refine (testamurlaw08_sane.calls  false _ A7.out).mono ?_); rintro e w40 ⟨rfl, hb⟩; refine ⟨_, rfl, ?_⟩; have n0_ := Aside0.mk (below_step (by repeat (first | (with_reducible first | exact HB.out | apply below_alloc | apply pw_below_drewN | apply below_drew1) | exact HB.out)) hb); clear HB; have HB := n0_; clear n0_; (try clear hb); (try clear hb2); (try clear hk); (try clear hi)))
    go_ret
    exact ⟨by first | rfl | (simp [errW_none, errW_some] <;> rfl) | (simp [*, errW_none, errW_some] <;> rfl), by repeat (first | (with_reducible first | exact HB.out | apply below_alloc | apply pw_below_drewN | apply below_drew1) | exact HB.out)⟩
end Go.Proofs.Ytillfbohengpaaa.PA
end
section
namespace Go.Proofs.Ytillfbohengpaaa.PA
open Go.RowKit Go.Proofs.YtillfbohengpaaaW.PrintWords Go.Proofs.YtillfbohengpaaaW.PrintLast Go.Proofs.YtillfbohengpaaaW.PrintMore
attribute [local go_sem] max2_int min2_int max_two min_two max_three min_three max_four min_four   -- for this text's walks alone
set_option linter.unusedVariables false
set_option linter.unusedSimpArgs false
def shares_Join.f (l0 : List S52) : Option (List Int × Int) := if okS l0 = true then some ((joinR (l0.map shG)).map tI, joinE (l0.map shG)) else none
theorem shares_Join.calls (A0 : Option Addr) (c0 : Nat) (l0 : List S52) (r1 : List Int) (r2 : Int) (w : World) (hr0 : Kd.C k52 w A0 l0.length l0) (hc0 : l0.length ≤ c0) (h : shares_Join.f l0 = some (r1, r2)) :
    Calls Try.prog 30 #[.slice A0 l0.length c0] w fun e w' => ∃ v0_ : Value, e = .returned (.tuple #[v0_, .int .i64 r2]) ∧ Kd.R (Kd.int .u8) 5 w' w.heap.size (fun _ => True) v0_ r1 ∧ Below w.heap.size w w' := by
  unfold shares_Join.f at h
  split at h
  case isFalse => cases h
  rename_i ho
  obtain ⟨L, rfl⟩ := ex_okS ho
  rw [shG_map] at h
  injection h with h
  injection h with e1 e2
  subst e1 e2
  refine (join_u A0 _ c0 L w hr0 hc0).mono ?_
  rintro e w' ⟨⟨v, rfl, hs⟩, hb⟩
  exact ⟨v, rfl, hs, hb⟩
end Go.Proofs.Ytillfbohengpaaa.PA
end
section
namespace Go.Proofs.Ytillfbohengpaaa.PA
open Go.RowKit Go.Proofs.YtillfbohengpaaaW.PrintWords Go.Proofs.YtillfbohengpaaaW.PrintLast Go.Proofs.YtillfbohengpaaaW.PrintMore
attribute [local go_sem] max2_int min2_int max_two min_two max_three min_three max_four min_four   -- for this text's walks alone
set_option linter.unusedVariables false
set_option linter.unusedSimpArgs false
def testamurlaw08_SharesJoinSpec.f (k : Nat) (l0 : List (S52)) : Option (Bool) := (testamurlaw08_sane.f).bind fun t184 => (if t184 = true then ((testamurref08_Few.f k l0).bind fun t185 => (if t185 = true then ((shares_Join.f l0).bind fun bt186 => ((testamurref08_Join.f k l0).bind fun bt190 => (if (strOfNums bt186.1).toList = (strOfNums bt190.1).toList then (some (bt186.2 == bt190.2)) else (some false)))) else (some true))) else (some false))
theorem testamurlaw08_SharesJoinSpec.mono : ∀ a0 k, LeO (testamurlaw08_SharesJoinSpec.f k a0) (testamurlaw08_SharesJoinSpec.f (k + 1) a0) := by
  intro a0 k
  unfold testamurlaw08_SharesJoinSpec.f
  repeat' first
      | (with_reducible exact testamurref08_Few.mono _ _)
      | (with_reducible exact testamurref08_Join.mono _ _)
      | (with_reducible exact LeO.refl _)
      | (with_reducible exact LeO.none _)
      | (with_reducible refine LeO.ite ?_ ?_)
      | (with_reducible refine LeO.bind ?_ (fun _ => ?_))
      | exact testamurref08_Few.mono _ _
      | exact testamurref08_Join.mono _ _
      | exact LeO.none _
      | refine LeO.ite ?_ ?_
      | refine LeO.bind ?_ (fun _ => ?_)
set_option maxHeartbeats 8000000 in
set_option maxRecDepth 100000 in
theorem testamurlaw08_SharesJoinSpec.calls (k : Nat) (A0 : Option Addr) (c0 : Nat) (l0 : List (S52)) (r : Bool) (w : World) (hr0 : Kd.C k52 w A0 l0.length l0) (hc0 : l0.length ≤ c0) (h : testamurlaw08_SharesJoinSpec.f k l0 = some r) :
    Calls Try.prog 9 #[.slice A0 l0.length c0] w fun e w' => e = .returned (.bool r) ∧ Below w.heap.size w w' := by
  have HR0 := Aside0.mk hr0
  have HC0 := Aside0.mk hc0
  clear hr0 hc0
  have HB := Aside0.mk (Below.refl w.heap.size w)
  have H : ((testamurlaw08_sane.f).bind fun t184 => (if t184 = true then ((testamurref08_Few.f k l0).bind fun t185 => (if t185 = true then ((shares_Join.f l0).bind fun bt186 => ((testamurref08_Join.f k l0).bind fun bt190 => (if (strOfNums bt186.1).toList = (strOfNums bt190.1).toList then (some (bt186.2 == bt190.2)) else (some false)))) else (some true))) else (some false))) = some r := h
  clear h
  replace H := Option.bind_eq_some_iff.mp H
  obtain ⟨t184, A20, H⟩ := H
  replace H : (if t184 = true then ((testamurref08_Few.f k l0).bind fun t185 => (if t185 = true then ((shares_Join.f l0).bind fun bt186 => ((testamurref08_Join.f k l0).bind fun bt190 => (if (strOfNums bt186.1).toList = (strOfNums bt190.1).toList then (some (bt186.2 == bt190.2)) else (some false)))) else (some true))) else (some false)) = some r := H
  have A2 := Aside0.mk A20
  clear A20
  by_cases c3 : t184 = true
  · subst c3
    have H1 : ((testamurref08_Few.f k l0).bind fun t185 => (if t185 = true then ((shares_Join.f l0).bind fun bt186 => ((testamurref08_Join.f k l0).bind fun bt190 => (if (strOfNums bt186.1).toList = (strOfNums bt190.1).toList then (some (bt186.2 == bt190.2)) else (some false)))) else (some true))) = some r := by rw [if_pos rfl] at H; exact H
    clear H
    have H := H1
    clear H1
    replace H := Option.bind_eq_some_iff.mp H
    obtain ⟨t185, A40, H⟩ := H
    replace H : (if t185 = true then ((shares_Join.f l0).bind fun bt186 => ((testamurref08_Join.f k l0).bind fun bt190 => (if (strOfNums bt186.1).toList = (strOfNums bt190.1).toList then (some (bt186.2 == bt190.2)) else (some false)))) else (some true)) = some r := H
    have A4 := Aside0.mk A40
    clear A40
    by_cases c5 : t185 = true
    · subst c5
      have H1 : ((shares_Join.f l0).bind fun bt186 => ((testamurref08_Join.f k l0).bind fun bt190 => (if (strOfNums bt186.1).toList = (strOfNums bt190.1).toList then (some (bt186.2 == bt190.2)) else (some false)))) = some r := by rw [if_pos rfl] at H; exact H
      clear H
      have H := H1
      clear H1
      replace H := Option.bind_eq_some_iff.mp H
      obtain ⟨⟨t186, t187⟩, A60, H⟩ := H
      replace H : ((testamurref08_Join.f k l0).bind fun bt190 => (if (strOfNums t186).toList = (strOfNums bt190.1).toList then (some (t187 == bt190.2)) else (some false))) = some r := H
      have A6 := Aside0.mk A60
      clear A60
      replace H := Option.bind_eq_some_iff.mp H
      obtain ⟨⟨t190, t191⟩, A70, H⟩ := H
      replace H : (if (strOfNums t186).toList = (strOfNums t190).toList then (some (t187 == t191)) else (some false)) = some r := H
      have A7 := Aside0.mk A70
      clear A70
      by_cases c8 : (strOfNums t186).toList = (strOfNums t190).toList
      · rw [if_pos c8] at H
        have c8b0 : ((strOfNums t186).toList == (strOfNums t190).toList) = true := beq_iff_eq.mpr c8
        have c8b1 : ((strOfNums t186).toList != (strOfNums t190).toList) = false := bne_eq_false_iff_eq.mpr c8
        clear c8
        obtain rfl := Option.some.inj H
        go_enter Try.func9, Try.ntmps9
        go_wp2_with (first | ((with_reducible refine gate_callee (f := 23) rfl ?_); refine goesL_ (some 7) rfl rfl Try.func23 (by kernel_rfl) rfl #[] rfl (by (try simp only [List.map_toArray, List.map_cons, List.map_nil]); first | done | rfl | (simp only [List.length_drop, List.length_take]; rfl)) ?_; (with_reducible refine (testamurlaw08_sane.calls  true _ A2.out).mono ?_); rintro e w9 ⟨rfl, hb⟩; refine ⟨_, rfl, ?_⟩; have n0_ := Aside0.mk (below_step (by repeat (first | (with_reducible first | exact HB.out | apply below_alloc | apply pw_below_drewN | apply below_drew1) | exact HB.out)) hb); clear HB; have HB := n0_; clear n0_; (try clear hb); (try clear hb2); (try clear hk); (try clear hi)) | ((with_reducible refine gate_callee (f := 24) rfl ?_); refine goesL_ (some 10) rfl rfl Try.func24 (by kernel_rfl) rfl #[.slice A0 l0.length c0] rfl (by (try simp only [List.map_toArray, List.map_cons, List.map_nil]); first | done | rfl | (simp only [List.length_drop, List.length_take]; rfl)) ?_; (with_reducible refine (testamurref08_Few.calls k _ _ l0 true _ ?side1 ?side2 A4.out).mono ?_); (case side1 => repeat (first | exact (Kd.C_below HR0.out HB.out) | (with_reducible refine Kd.C_alloc ?_ _) | (with_reducible refine Kd.C_drewN ?_ _) | (with_reducible refine Kd.C_drew ?_))); (case side2 => exact HC0.out); rintro e w' ⟨rfl, ⟨nd, rfl⟩⟩; refine ⟨_, rfl, ?_⟩) | ((with_reducible refine gate_callee (f := 30) rfl ?_); refine goesL_ (some 14) rfl rfl Try.func30 (by kernel_rfl) rfl #[.slice A0 l0.length c0] rfl (by (try simp only [List.map_toArray, List.map_cons, List.map_nil]); first | done | rfl | (simp only [List.length_drop, List.length_take]; rfl)) ?_; (with_reducible refine (shares_Join.calls _ _ l0 t186 t187 _ ?side1 ?side2 A6.out).mono ?_); (case side1 => repeat (first | exact (Kd.C_below HR0.out (by repeat (first | (with_reducible first | exact HB.out | apply below_alloc | apply pw_below_drewN | apply below_drew1) | exact HB.out))) | (with_reducible refine Kd.C_alloc ?_ _) | (with_reducible refine Kd.C_drewN ?_ _) | (with_reducible refine Kd.C_drew ?_))); (case side2 => exact HC0.out); rintro e w10 ⟨v188, rfl, ho0, hb⟩; refine ⟨_, rfl, ?_⟩; have n0_ := Aside0.mk (Kd.R_lower ho0 (below_size (by repeat (first | (with_reducible first | exact HB.out | apply below_alloc | apply pw_below_drewN | apply below_drew1) | exact HB.out)))); have n1_ := Aside0.mk (below_step (by repeat (first | (with_reducible first | exact HB.out | apply below_alloc | apply pw_below_drewN | apply below_drew1) | exact HB.out)) hb); clear HB; have HO189 := n0_; have HB := n1_; clear n0_ n1_; (try clear hb); (try clear hb2); (try clear hk); (try clear hi); (try clear ho0)) | ((with_reducible refine gate_callee (f := 31) rfl ?_); refine goesL_ (some 19) rfl rfl Try.func31 (by kernel_rfl) rfl #[.slice A0 l0.length c0] rfl (by (try simp only [List.map_toArray, List.map_cons, List.map_nil]); first | done | rfl | (simp only [List.length_drop, List.length_take]; rfl)) ?_; (with_reducible refine (testamurref08_Join.calls k _ _ l0 t190 t191 _ ?side1 ?side2 A7.out).mono ?_); (case side1 => repeat (first | exact (Kd.C_below HR0.out HB.out) | (with_reducible refine Kd.C_alloc ?_ _) | (with_reducible refine Kd.C_drewN ?_ _) | (with_reducible refine Kd.C_drew ?_))); (case side2 => exact HC0.out); rintro e w11 ⟨v192, rfl, ho0, hb⟩; refine ⟨_, rfl, ?_⟩; have n0_ := Aside0.mk (Kd.R_elder' (by (with_reducible repeat (first | apply Kd.R_alloc | apply Kd.R_drewN | apply Kd.R_drew)); exact HO189.out) (Kd.R_base ho0) hb); have n1_ := Aside0.mk (Kd.R_lower (Kd.R_new' ho0 (Kd.R_lt (by (with_reducible repeat (first | apply Kd.R_alloc | apply Kd.R_drewN | apply Kd.R_drew)); exact HO189.out))) (below_size (by repeat (first | (with_reducible first | exact HB.out | apply below_alloc | apply pw_below_drewN | apply below_drew1) | exact HB.out)))); have n2_ := Aside0.mk (below_step (by repeat (first | (with_reducible first | exact HB.out | apply below_alloc | apply pw_below_drewN | apply below_drew1) | exact HB.out)) hb); clear HO189; clear HB; have HO189 := n0_; have HO193 := n1_; have HB := n2_; clear n0_ n1_ n2_; (try clear hb); (try clear hb2); (try clear hk); (try clear hi); (try clear ho0); have hcv12 := own_string (P := Try.prog) Try.underlying30 Try.underlying5 Try.underlying9 (Kd.own_of_R HO189.out); have hcv13 := own_string (P := Try.prog) Try.underlying30 Try.underlying5 Try.underlying9 (Kd.own_of_R HO193.out)))
        go_ret
        exact ⟨by first | rfl | (simp [errW_none, errW_some] <;> rfl) | (simp [*, errW_none, errW_some] <;> rfl), by repeat (first | (with_reducible first | exact HB.out | apply below_alloc | apply pw_below_drewN | apply below_drew1) | exact HB.out)⟩
      · rw [if_neg c8] at H
        have c8b0 : ((strOfNums t186).toList == (strOfNums t190).toList) = false := beq_eq_false_iff_ne.mpr c8
        have c8b1 : ((strOfNums t186).toList != (strOfNums t190).toList) = true := bne_iff_ne.mpr c8
        obtain rfl := Option.some.inj H
        go_enter Try.func9, Try.ntmps9
        go_wp2_with (first | ((with_reducible refine gate_callee (f := 23) rfl ?_); refine goesL_ (some 7) rfl rfl Try.func23 (by kernel_rfl) rfl #[] rfl (by (try simp only [List.map_toArray, List.map_cons, List.map_nil]); first | done | rfl | (simp only [List.length_drop, List.length_take]; rfl)) ?_; (with_reducible refine (testamurlaw08_sane.calls  true _ A2.out).mono ?_); rintro e w14 ⟨rfl, hb⟩; refine ⟨_, rfl, ?_⟩; have n0_ := Aside0.mk (below_step (by repeat (first | (with_reducible first | exact HB.out | apply below_alloc | apply pw_below_drewN | apply below_drew1) | exact HB.out)) hb); clear HB; have HB := n0_; clear n0_; (try clear hb); (try clear hb2); (try clear hk); (try clear hi)) | ((with_reducible refine gate_callee (f := 24) rfl ?_); refine goesL_ (some 10) rfl rfl Try.func24 (by kernel_rfl) rfl #[.slice A0 l0.length c0] rfl (by (try simp only [List.map_toArray, List.map_cons, List.map_nil]); first | done | rfl | (simp only [List.length_drop, List.length_take]; rfl)) ?_; (with_reducible refine (testamurref08_Few.calls k _ _ l0 true _ ?side1 ?side2 A4.out).mono ?_); (case side1 => repeat (first | exact (Kd.C_below HR0.out HB.out) | (with_reducible refine Kd.C_alloc ?_ _) | (with_reducible refine Kd.C_drewN ?_ _) | (with_reducible refine Kd.C_drew ?_))); (case side2 => exact HC0.out); rintro e w' ⟨rfl, ⟨nd, rfl⟩⟩; refine ⟨_, rfl, ?_⟩) | ((with_reducible refine gate_callee (f := 30) rfl ?_); refine goesL_ (some 14) rfl rfl Try.func30 (by kernel_rfl) rfl #[.slice A0 l0.length c0] rfl (by (try simp only [List.map_toArray, List.map_cons, List.map_nil]); first | done | rfl | (simp only [List.length_drop, List.length_take]; rfl)) ?_; (with_reducible refine (shares_Join.calls _ _ l0 t186 t187 _ ?side1 ?side2 A6.out).mono ?_); (case side1 => repeat (first | exact (Kd.C_below HR0.out (by repeat (first | (with_reducible first | exact HB.out | apply below_alloc | apply pw_below_drewN | apply below_drew1) | exact HB.out))) | (with_reducible refine Kd.C_alloc ?_ _) | (with_reducible refine Kd.C_drewN ?_ _) | (with_reducible refine Kd.C_drew ?_))); (case side2 => exact HC0.out); rintro e w15 ⟨v188, rfl, ho0, hb⟩; refine ⟨_, rfl, ?_⟩; have n0_ := Aside0.mk (Kd.R_lower ho0 (below_size (by repeat (first | (with_reducible first | exact HB.out | apply below_alloc | apply pw_below_drewN | apply below_drew1) | exact HB.out)))); have n1_ := Aside0.mk (below_step (by repeat (first | (with_reducible first | exact HB.out | apply below_alloc | apply pw_below_drewN | apply below_drew1) | exact HB.out)) hb); clear HB; have HO189 := n0_; have HB := n1_; clear n0_ n1_; (try clear hb); (try clear hb2); (try clear hk); (try clear hi); (try clear ho0)) | ((with_reducible refine gate_callee (f := 31) rfl ?_); refine goesL_ (some 19) rfl rfl Try.func31 (by kernel_rfl) rfl #[.slice A0 l0.length c0] rfl (by (try simp only [List.map_toArray, List.map_cons, List.map_nil]); first | done | rfl | (simp only [List.length_drop, List.length_take]; rfl)) ?_; (with_reducible refine (testamurref08_Join.calls k _ _ l0 t190 t191 _ ?side1 ?side2 A7.out).mono ?_); (case side1 => repeat (first | exact (Kd.C_below HR0.out HB.out) | (with_reducible refine Kd.C_alloc ?_ _) | (with_reducible refine Kd.C_drewN ?_ _) | (with_reducible refine Kd.C_drew ?_))); (case side2 => exact HC0.out); rintro e w16 ⟨v192, rfl, ho0, hb⟩; refine ⟨_, rfl, ?_⟩; have n0_ := Aside0.mk (Kd.R_elder' (by (with_reducible repeat (first | apply Kd.R_alloc | apply Kd.R_drewN | apply Kd.R_drew)); exact HO189.out) (Kd.R_base ho0) hb); have n1_ := Aside0.mk (Kd.R_lower (Kd.R_new' ho0 (Kd.R_lt (by (with_reducible repeat (first | apply Kd.R_alloc | apply Kd.R_drewN | apply Kd.R_drew)); exact HO189.out))) (below_size (by repeat (first | (with_reducible first | exact HB.out | apply below_alloc | apply pw_below_drewN | apply below_drew1) | exact HB.out)))); have n2_ := Aside0.mk (below_step (by repeat (first | (with_reducible first | exact HB.out | apply below_alloc | apply pw_below_drewN | apply below_drew1) | exact HB.out)) hb); clear HO189; clear HB; have HO189 := n0_; have HO193 := n1_; have HB := n2_; clear n0_ n1_ n2_; (try clear hb); (try clear hb2); (try clear hk); (try clear hi); (try clear ho0); have hcv17 := own_string (P := Try.prog) Try.underlying30 Try.underlying5 Try.underlying9 (Kd.own_of_R HO189.out); have hcv18 := own_string (P := Try.prog) Try.underlying30 Try.underlying5 Try.underlying9 (Kd.own_of_R HO193.out)))
        go_ret
        exact ⟨by first | rfl | (simp [errW_none, errW_some] <;> rfl) | (simp [*, errW_none, errW_some] <;> rfl), by repeat (first | (with_reducible first | exact HB.out | apply below_alloc | apply pw_below_drewN | apply below_drew1) | exact HB.out)⟩
    · replace c5 := Bool.eq_false_iff.mpr c5
      subst c5
      have H1 : (some true) = some r := by rw [if_neg (show ¬ (false = true) by decide)] at H; exact H
      clear H
      have H := H1
      clear H1
      obtain rfl := Option.some.inj H
      go_enter Try.func9, Try.ntmps9
      go_wp2_with (first | ((with_reducible refine gate_callee (f := 23) rfl ?_); refine goesL_ (some 7) rfl rfl Try.func23 (by kernel_rfl) rfl #[] rfl (by (try simp only [List.map_toArray, List.map_cons, List.map_nil]); first | done | rfl | (simp only [List.length_drop, List.length_take]; rfl)) ?_; (with_reducible refine (testamurlaw08_sane.calls  true _ A2.out).mono ?_); rintro e w19 ⟨rfl, hb⟩; refine ⟨_, rfl, ?_⟩; have n0_ := Aside0.mk (below_step (by repeat (first | (with_reducible first | exact HB.out | apply below_alloc | apply pw_below_drewN | apply below_drew1) | exact HB.out)) hb); clear HB; have HB := n0_; clear n0_; (try clear hb); (try clear hb2); (try clear hk); (try clear hi)) | ((with_reducible refine gate_callee (f := 24) rfl ?_); refine goesL_ (some 10) rfl rfl Try.func24 (by kernel_rfl) rfl #[.slice A0 l0.length c0] rfl (by (try simp only [List.map_toArray, List.map_cons, List.map_nil]); first | done | rfl | (simp only [List.length_drop, List.length_take]; rfl)) ?_; (with_reducible refine (testamurref08_Few.calls k _ _ l0 false _ ?side1 ?side2 A4.out).mono ?_); (case side1 => repeat (first | exact (Kd.C_below HR0.out HB.out) | (with_reducible refine Kd.C_alloc ?_ _) | (with_reducible refine Kd.C_drewN ?_ _) | (with_reducible refine Kd.C_drew ?_))); (case side2 => exact HC0.out); rintro e w' ⟨rfl, ⟨nd, rfl⟩⟩; refine ⟨_, rfl, ?_⟩))
      go_ret
      exact ⟨by first | rfl | (simp [errW_none, errW_some] <;> rfl) | (simp [*, errW_none, errW_some] <;> rfl), by repeat (first | (with_reducible first | exact HB.out | apply below_alloc | apply pw_below_drewN | apply below_drew1) | exact HB.out)⟩
  · replace c3 := Bool.eq_false_iff.mpr c3
    subst c3
    have H1 : (some false) = some r := by rw [if_neg (show ¬ (false = true) by decide)] at H; exact H
    clear H
    have H := H1
    clear H1
    obtain rfl := Option.some.inj H
    go_enter Try.func9, Try.ntmps9
    go_wp2_with (first | ((with_reducible refine gate_callee (f := 23) rfl ?_); refine goesL_ (some 7) rfl rfl Try.func23 (by kernel_rfl) rfl #[] rfl (by (try simp only [List.map_toArray, List.map_cons, List.map_nil]); first | done | rfl | (simp only [List.length_drop, List.length_take]; rfl)) ?_; (with_reducible refine (testamurlaw08_sane.calls  false _ A2.out).mono ?_); rintro e w20 ⟨rfl, hb⟩; refine ⟨_, rfl, ?_⟩; have n0_ := Aside0.mk (below_step (by repeat (first | (with_reducible first | exact HB.out | apply below_alloc | apply pw_below_drewN | apply below_drew1) | exact HB.out)) hb); clear HB; have HB := n0_; clear n0_; (try clear hb); (try clear hb2); (try clear hk); (try clear hi)))
    go_ret
    exact ⟨by first | rfl | (simp [errW_none, errW_some] <;> rfl) | (simp [*, errW_none, errW_some] <;> rfl), by repeat (first | (with_reducible first | exact HB.out | apply below_alloc | apply pw_below_drewN | apply below_drew1) | exact HB.out)⟩
end Go.Proofs.Ytillfbohengpaaa.PA
end
section
set_option linter.unusedVariables false
set_option linter.unusedSimpArgs false
namespace Go.Proofs.Ytillfbohengpaaa
open Go.RowKit Go.ChangeShapes Go.Deep Go.Proofs.YtillfbohengpaaaW.PrintWords
section
variable {H : Type} (enc : TypeId × Value → H) (P : Program) (w : World) (base : Nat) (spare : Nat → Bool) (held : Bool)
structure Opens {α : Type} (k : Kd α) (W : α → Prop) (t : TypeId) : Prop where
  cells : P.cellsOf t = k.sz
  open_ : ∀ {fuel : Nat} {cs : List Value} {x : DataW H × List MemPlace}, DataW.trod enc P w base spare held fuel t cs = some x → ∃ a, k.K w a cs ∧ W a
structure OpensSeg {α : Type} (k : Kd α) (W : α → Prop) (fs : List Field) (off : Nat) : Prop where
  open_ : ∀ {n : Nat} {cs : List Value}, (∀ f ∈ fs, ∃ y, DataW.trod enc P w base spare held n f.type ((cs.drop f.offset).take (P.cellsOf f.type)) = some y) → ∃ a, k.K w a ((cs.drop off).take k.sz) ∧ W a
variable {enc P w base spare held}
theorem opens_int {k : IntKind} {t : TypeId} (ht : P.underlying t = some (.int k)) (hc : P.cellsOf t = 1) : Opens enc P w base spare held (Kd.int k) (fun x => (Lit.int k x).wf = true) t :=
  ⟨hc, fun h => by
    obtain ⟨n, rfl, _, hw⟩ := DataW.trod_int ht h
    exact ⟨n, rfl, hw⟩⟩
theorem opens_slice {α : Type} {k : Kd α} {W : α → Prop} {t e : TypeId} (ht : P.underlying t = some (.slice e)) (hc : P.cellsOf t = 1) (he : Opens enc P w base spare held k W e) : Opens enc P w base spare held (Kd.slice e k) (fun l => ∀ x ∈ l, W x) t :=
  ⟨hc, fun {fuel cs x} h => by
    rcases open_slice ht h with ⟨rfl, _⟩ | ⟨a, len, cap, m, n, D, Pl, rfl, hb, hl, hm, hmm, rfl, hx⟩
    · exact ⟨[], ⟨none, 0, rfl, Nat.le_refl _, ⟨rfl, by simp, fun h => by simp at h⟩⟩, fun x h => by simp at h⟩
    have hlm : len ≤ m := by rw [hmm]; split <;> omega
    have each : ∀ i, i < len → ∃ q : α × List Value, w.cells? base (a.add (i * P.cellsOf e)) (P.cellsOf e) = some q.2 ∧ k.K w q.1 q.2 ∧ W q.1 := fun i hi => by
      obtain ⟨cs', h1, h2⟩ := hx i (by omega)
      obtain ⟨y, h3, h4⟩ := he.open_ h2
      exact ⟨(y, cs'), h1, h3, h4⟩
    have hne : len = 0 ∨ Nonempty (α × List Value) := by
      rcases Nat.eq_zero_or_pos len with h0 | h0
      · exact .inl h0
      · obtain ⟨q, _⟩ := each 0 h0; exact .inr ⟨q⟩
    rcases hne with rfl | ⟨⟨q0⟩⟩
    · exact ⟨[], ⟨some a, cap, rfl, Nat.zero_le _, ⟨rfl, by simp, fun h => by simp at h⟩⟩, fun x h => by simp at h⟩
    have ⟨q, hq⟩ : ∃ q : Nat → α × List Value, ∀ i, i < len → w.cells? base (a.add (i * P.cellsOf e)) (P.cellsOf e) = some (q i).2 ∧ k.K w (q i).1 (q i).2 ∧ W (q i).1 := by
      classical
      exact ⟨fun i => if h : i < len then (each i h).choose else q0, fun i hi => by simp only [dif_pos hi]; exact (each i hi).choose_spec⟩
    refine ⟨(List.range len).map fun i => (q i).1, ⟨some a, cap, by simp, by simpa using hl, ⟨by simp, by simp only [List.length_map, List.length_range]; unfold maxLen at hm; omega, fun _ => ⟨a, rfl, fun j p hj => ?_⟩⟩⟩, fun x hx => ?_⟩
    · rw [List.getElem?_map, Option.map_eq_some_iff] at hj
      obtain ⟨i, hi, rfl⟩ := hj
      have hjl : j < len := by have := (List.getElem?_eq_some_iff.1 hi).1; simpa using this
      have : i = j := by have := (List.getElem?_eq_some_iff.1 hi).2; simpa using this.symm
      subst this
      obtain ⟨h1, h2, _⟩ := hq i hjl
      obtain ⟨_, hlen, hcell⟩ := World.cells?_some h1
      refine ⟨(q i).2, k.K_len h2, h2, fun z u hu => ?_⟩
      have hz := (List.getElem?_eq_some_iff.1 hu).1
      have := hcell z (by rw [← hlen]; exact hz)
      rw [_root_.Go.Proofs.YtillfbohengpaaaW.PrintWords.add_add a] at this
      rw [← he.cells, this]
      exact hu
    · obtain ⟨i, hi, rfl⟩ := List.mem_map.1 hx
      exact (hq i (by simpa using hi)).2.2⟩
theorem seg_one {α : Type} {k : Kd α} {W : α → Prop} {f : Field} {off : Nat} (ho : f.offset = off) (h : Opens enc P w base spare held k W f.type) : OpensSeg enc P w base spare held k W [f] off :=
  ⟨fun {n cs} hf => by
    obtain ⟨y, hy⟩ := hf f (by simp)
    rw [ho, h.cells] at hy
    exact h.open_ hy⟩
theorem seg_cons {α β : Type} {k0 : Kd α} {k1 : Kd β} {W0 : α → Prop} {W1 : β → Prop} {f : Field} {fs : List Field} {off : Nat} (ho : f.offset = off) (h : Opens enc P w base spare held k0 W0 f.type) (hs : OpensSeg enc P w base spare held k1 W1 fs (off + k0.sz)) :
    OpensSeg enc P w base spare held (Kd.pair k0 k1) (fun x => W0 x.1 ∧ W1 x.2) (f :: fs) off :=
  ⟨fun {n cs} hf => by
    obtain ⟨y, hy⟩ := hf f (by simp)
    rw [ho, h.cells] at hy
    obtain ⟨a, ha, hWa⟩ := h.open_ hy
    obtain ⟨b, hb, hWb⟩ := hs.open_ (n := n) (cs := cs) (fun g hg => hf g (List.mem_cons_of_mem _ hg))
    refine ⟨(a, b), ⟨_, _, ?_, ha, hb⟩, hWa, hWb⟩
    show (cs.drop off).take (k0.sz + k1.sz) = _
    rw [List.take_add, List.drop_drop]⟩
theorem opens_struct {α β : Type} {k : Kd α} {W : α → Prop} {t : TypeId} {fs : Array Field} (f : β → α) (g : α → β) (hfg : ∀ a, f (g a) = a) (ht : P.underlying t = some (.struct fs)) (hc : P.cellsOf t = k.sz) (h : OpensSeg enc P w base spare held k W fs.toList 0) :
    Opens enc P w base spare held (Kd.iso k f) (fun b => W (f b)) t :=
  ⟨hc, fun {fuel cs x} hx => by
    obtain ⟨xs, n, _, _, hl, hxl, hf⟩ := DataW.trod_struct ht hx
    obtain ⟨a, ha, hW⟩ := h.open_ (n := n) (cs := cs) (fun fl hfl => by
      obtain ⟨i, hi, e⟩ := List.mem_iff_getElem.1 hfl
      have hi' : i < fs.size := by simpa using hi
      have := hf i fl (by rw [Array.getElem?_eq_getElem hi', ← e]; simp)
      rw [this, List.getElem?_eq_getElem (by omega)]
      exact ⟨_, rfl⟩)
    refine ⟨g a, ?_, ?_⟩
    · show k.K w (f (g a)) cs
      rw [hfg, ← List.take_length (l := cs), hl, hc]
      simpa using ha
    · show W (f (g a)); rw [hfg]; exact hW⟩
theorem Opens.arg {α : Type} {k : Kd α} {W : α → Prop} {t e : TypeId} {a : Option Addr} {len cap : Nat} {d : DataW H} {p : List MemPlace} (h : Opens enc P w base spare held (Kd.slice e k) (fun l => ∀ x ∈ l, W x) t)
    (ht : DataW.Trod enc P w base spare held t (.slice a len cap) d p) : ∃ l : List α, l.length = len ∧ len ≤ cap ∧ k.C w a l.length l ∧ ∀ x ∈ l, W x := by
  obtain ⟨fuel, hf⟩ := ht
  obtain ⟨l, ⟨A, c, e, hlc, hC⟩, hW⟩ := h.open_ hf
  simp [Value.cells] at e
  obtain ⟨rfl, rfl, rfl⟩ := e
  exact ⟨l, rfl, hlc, hC, hW⟩
end
end Go.Proofs.Ytillfbohengpaaa
end
section
set_option linter.unusedVariables false
set_option linter.unusedSimpArgs false
namespace Go.Proofs.Ytillfbohengpaaa
open Go.RowKit Go.ChangeShapes Go.Proofs.YtillfbohengpaaaW.PrintWords PA
theorem okB_wf (x : Int) (h : (Lit.int .u8 x).wf = true) : okB x = true := by
  simp only [Lit.wf] at h
  simp only [okB, Bool.and_eq_true, decide_eq_true_eq]
  revert h
  simp [IntKind.min, IntKind.max, IntKind.signed, IntKind.bits] 
  omega
section
variable {H : Type} {enc : TypeId × Value → H} {w : World} {base : Nat} {spare : Nat → Bool} {held : Bool}
theorem opens_bytes : Opens enc Try.prog w base spare held (Kd.slice 5 (Kd.int .u8)) (fun l => ∀ x ∈ l, (Lit.int .u8 x).wf = true) 30 :=
  opens_slice (by kernel_rfl) (by kernel_rfl) (opens_int (by kernel_rfl) (by kernel_rfl))
theorem opens_i64 : Opens enc Try.prog w base spare held (Kd.int .i64) (fun x => (Lit.int .i64 x).wf = true) 3 := opens_int (by kernel_rfl) (by kernel_rfl)
def ShWf (s : S52) : Prop := (Lit.int .i64 s.f0).wf = true ∧ (Lit.int .i64 s.f1).wf = true ∧ (Lit.int .i64 s.f2).wf = true ∧ (Lit.int .i64 s.f3).wf = true ∧ ∀ x ∈ s.f4, (Lit.int .u8 x).wf = true
theorem opens_share : Opens enc Try.prog w base spare held k52 ShWf 52 :=
  opens_struct (fun x : S52 => (x.f0, x.f1, x.f2, x.f3, x.f4)) (fun a => ⟨a.1, a.2.1, a.2.2.1, a.2.2.2.1, a.2.2.2.2⟩) (fun a => rfl) Try.underlying52 (by kernel_rfl)
    (seg_cons rfl opens_i64 (seg_cons rfl opens_i64 (seg_cons rfl opens_i64 (seg_cons rfl opens_i64 (seg_one rfl opens_bytes)))))
theorem opens_shares : Opens enc Try.prog w base spare held (Kd.slice 52 k52) (fun l => ∀ x ∈ l, ShWf x) 37 :=
  opens_slice (by kernel_rfl) (by kernel_rfl) opens_share
theorem okS_wf (l : List S52) (h : ∀ x ∈ l, ShWf x) : okS l = true :=
  List.all_eq_true.2 fun s hs => List.all_eq_true.2 fun x hx => okB_wf x ((h s hs).2.2.2.2 x hx)
theorem isB_wf (l : List Int) (h : ∀ x ∈ l, (Lit.int .u8 x).wf = true) : isB l = true := List.all_eq_true.2 fun x hx => okB_wf x (h x hx)
end
end Go.Proofs.Ytillfbohengpaaa
end
section
set_option linter.unusedVariables false
set_option linter.unusedSimpArgs false
namespace Go.Proofs.Ytillfbohengpaaa
open Go.RowKit Gf Go.Proofs.YtillfbohengpaaaW.PrintWords PA
theorem sane_f : testamurlaw08_sane.f = some true := rfl
end Go.Proofs.Ytillfbohengpaaa
end
section
set_option linter.unusedVariables false
set_option linter.unusedSimpArgs false
namespace Go.Proofs.Ytillfbohengpaaa
open Go.RowKit Gf Go.Proofs.YtillfbohengpaaaW.PrintWords PA
theorem check_f (L : List Sh) : shares_Check.f (L.map sI) = some (checkR L) := by
  unfold shares_Check.f
  rw [if_pos (okS_sI L), shG_map]
theorem splitV_len (l r : List G) (ep th mn : Int) : (splitV l r ep th mn).1.length ≤ 8 := by
  unfold splitV
  split
  · rename_i h
    obtain ⟨_, m, n, rfl, rfl, h1, h2, _⟩ := splitErr_zero h
    simp [splitTo]; omega
  · simp
theorem splitspec_f (L : List Sh) (l r : List G) (a2 a3 a4 : Int) (h3 : -9223372036854775808 ≤ a3 ∧ a3 ≤ 9223372036854775807) (hl : L.length ≤ 9223372036854775807) (k : Nat) (hk : L.length + 30000 < k) :
    testamurlaw08_SharesSplitSpec.f k (L.map sI) (l.map tI) a2 a3 a4 (r.map tI) = some true := by
  obtain ⟨k, rfl⟩ : ∃ q, k = q + 1 := ⟨k - 1, by omega⟩
  have j1 : testamurlaw08_SharesSplitSpec.j0 (k + 1) (L.map sI) (l.map tI) a2 a3 a4 (r.map tI) true = some true := by
    simp only [testamurlaw08_SharesSplitSpec.j0]
    rw [if_pos trivial]
  unfold testamurlaw08_SharesSplitSpec.f
  rw [sane_f]
  simp only [Option.bind_some]
  rw [if_pos trivial, few_f L hl _ (by omega)]
  simp only [Option.bind_some]
  by_cases h : fewB L = true
  case neg => rw [if_neg h]; exact j1
  rw [if_pos h, List.length_map, List.length_map]
  by_cases c1 : (l.length : Int) > 70
  · rw [if_pos c1]; exact j1
  rw [if_neg c1]
  by_cases c2 : (r.length : Int) > 600
  · rw [show decide ((r.length : Int) > 600) = true from decide_eq_true c2]; exact j1
  rw [show decide ((r.length : Int) > 600) = false from decide_eq_false c2]
  simp only [testamurlaw08_SharesSplitSpec.j0]
  rw [if_neg (by decide), split_f l r a2 a3 a4 (by omega) (by omega), rsplit_f l r a2 a3 a4 (by omega) (by omega) h3 k (by omega), check_f, rcheck_f L hl k (by omega)]
  simp only [Option.bind_some]
  have hlen := splitV_len l r a2 a3 a4
  rw [if_pos trivial, same_f _ (by rw [List.length_map]; omega) k (by rw [List.length_map]; omega)]
  simp only [Option.bind_some]
  rw [if_pos trivial, beq_self_eq_true]
theorem i64_wf {x : Int} (h : (Lit.int .i64 x).wf = true) : -9223372036854775808 ≤ x ∧ x ≤ 9223372036854775807 := by
  simp only [Lit.wf] at h
  revert h
  simp [IntKind.min, IntKind.max, IntKind.signed, IntKind.bits]
theorem splitspec_w {w : World} (A : Option Addr) (c : Nat) (l0 : List S52) (hC : Kd.C k52 w A l0.length l0) (hc : l0.length ≤ c) (hW : ∀ x ∈ l0, ShWf x)
    (A1 : Option Addr) (c1 : Nat) (l1 : List Int) (hC1 : Kd.C (Kd.int .u8) w A1 l1.length l1) (hc1 : l1.length ≤ c1) (hW1 : ∀ x ∈ l1, (Lit.int .u8 x).wf = true)
    (a2 : Int) (w2 : (Lit.int .i64 a2).wf = true) (a3 : Int) (w3 : (Lit.int .i64 a3).wf = true) (a4 : Int) (w4 : (Lit.int .i64 a4).wf = true)
    (A5 : Option Addr) (c5 : Nat) (l5 : List Int) (hC5 : Kd.C (Kd.int .u8) w A5 l5.length l5) (hc5 : l5.length ≤ c5) (hW5 : ∀ x ∈ l5, (Lit.int .u8 x).wf = true) :
    Calls Try.prog 8 #[.slice A l0.length c, .slice A1 l1.length c1, .int .i64 a2, .int .i64 a3, .int .i64 a4, .slice A5 l5.length c5] w fun e w' => e = .returned (.bool true) ∧ Below w.heap.size w w' := by
  obtain ⟨L, rfl⟩ := ex_okS (okS_wf l0 hW)
  obtain ⟨l, rfl⟩ := ex_isB (isB_wf l1 hW1)
  obtain ⟨r, rfl⟩ := ex_isB (isB_wf l5 hW5)
  obtain ⟨k, hk⟩ : ∃ k, L.length + 30000 < k := ⟨_, Nat.lt_succ_self _⟩
  have hl := hC.2.1
  rw [List.length_map] at hl
  exact testamurlaw08_SharesSplitSpec.calls k A c (L.map sI) A1 c1 (l.map tI) a2 a3 a4 A5 c5 (r.map tI) true w hC hc hC1 hc1 hC5 hc5 (splitspec_f L l r a2 a3 a4 (i64_wf w3) hl k hk)
end Go.Proofs.Ytillfbohengpaaa
end
