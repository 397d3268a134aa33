/-
  Texts of this session and laid words, merged in their order and pruned: SplitA, SplitB, Split, SplitOk, Pts, ShLaw, RalikeS, PAtestamurref08alike, PAtestamurref08Check, PAtestamurref08points, PAtestamurref07Points, PAtestamurref07Inv, PAtestamurref07over, PAtestamurref07Through, PAtestamurref08Join, Times, PAtestamurref07times, PAtestamurref07Coefficients, PureA, Join, PureB, PAsharesSplit, PureC, RefreshA.
-/
import Derived.Test.YtillfbohengpaaaKS2
import Derived.Test.YtillfbohengpaaaKS1
section
set_option linter.unusedVariables false
set_option linter.unusedSimpArgs false
namespace Go.Proofs.Ytillfbohengpaaa
open Go.RowKit Gf Go.Sort
theorem RL.cut {α : Type} {enc : α → Value} {w : World} {b o n : Nat} {l : List α} (h : RL enc w (some ⟨b, o, none⟩) n l) (p m : Nat) (hp : p + m ≤ n) : RL enc w (some ⟨b, o + p, none⟩) m ((l.drop p).take m) := by
  refine ⟨by simp; have := h.1; omega, by have := h.2.1; omega, fun j hj => ?_⟩
  have hj' : j < m := by simp at hj; omega
  obtain ⟨b', o', e, hb, hc⟩ := h.at (p + j) (by omega)
  injection e with e; injection e with e1 e2
  subst e1 e2
  refine ⟨b, o + p, rfl, hb, ?_⟩
  rw [show o + p + j = o + (p + j) by omega, hc]
  simp
set_option maxRecDepth 100000 in
set_option maxHeartbeats 2000000 in
theorem piece_u (A : Option Addr) (n c : Nat) (l : List G) (at_ m : Nat) (w : World) (h0 : RL gv w A n l) (hc : n ≤ c) (hb : (at_ + 1) * m ≤ n) (hn : n ≤ 100000) (hat : at_ ≤ 100000) (hm : m ≤ 100000) :
    Calls Try.prog 42 #[.slice A n c, .int .i64 (at_ : Int), .int .i64 (m : Int)] w fun e w' => ∃ B, e = .returned (.slice B m m) ∧ RL gv w B m ((l.drop (at_ * m)).take m) ∧ w = w' := by
  obtain ⟨p, hp⟩ : ∃ p, p = at_ * m := ⟨_, rfl⟩
  have hq : (at_ + 1) * m = p + m := by rw [hp, Nat.add_mul, Nat.one_mul]
  rw [hq] at hb
  have e1 : wrap64 ((at_ : Int) * (m : Int)) = (p : Int) := by
    have : (at_ : Int) * (m : Int) = (p : Int) := by rw [hp]; simp
    rw [this]; unfold wrap64; omega
  have e2 : wrap64 (((at_ : Int) + 1) * (m : Int)) = (p : Int) + (m : Int) := by
    have : ((at_ : Int) + 1) * (m : Int) = (p : Int) + (m : Int) := by
      have := congrArg (fun x : Nat => (x : Int)) hq
      simpa using this
    rw [this]; unfold wrap64; omega
  have hbc : p + m ≤ c := by omega
  rw [← hp]
  have HQ := Lib.hid hq
  have HP := Lib.hid hp
  clear hq hp
  go_enter Try.func42, Try.ntmps42
  go_wp2_with fail
  · obtain rfl : m = 0 := by omega
    go_ret
    exact ⟨A, by simp, by simpa using RL.nil gv w A, rfl⟩
  · go_ret
    refine ⟨_, rfl, ?_, rfl⟩
    obtain ⟨b, o, rfl, hb', _⟩ := h0.at 0 (by omega)
    show RL gv w (some (Addr.add ⟨b, o, none⟩ p)) m _
    rw [Go.Proofs.YtillfbohengpaaaW.PrintWords.add_at]
    exact h0.cut p m hb
set_option maxRecDepth 100000 in
set_option maxHeartbeats 2000000 in
theorem split2_u (p q : Nat) (A : Option Addr) (n c : Nat) (vs : List Value) (g : Nat → List G) (base : Nat) (i at_ : Nat) (w : World) (hp : w.cell? ⟨p, 0, none⟩ = some (.slice A n c)) (hq : w.cell? ⟨q, 0, none⟩ = some (.int .i64 (i : Int)))
    (ho : OwnL id 30 w base (.slice A n c) n vs) (hv : VRs w base (.slice A n c) vs n g) (hat : at_ < n) (hi : i < 256) :
    Calls Try.prog 44 #[.int .i64 (at_ : Int), .pointer (some ⟨p, 0, none⟩), .pointer (some ⟨q, 0, none⟩)] w fun e w' => e = .returned (gv (ev (g at_) (BitVec.ofNat 8 i))) ∧ Below w.heap.size w w' := by
  obtain ⟨g0, cap, e, hb, hlt⟩ := ho.form (by omega)
  injection e with e1 e2 e3
  subst e1 e3
  obtain ⟨m, hm, _⟩ := hv.2 at_ (by rw [hv.1]; exact hat)
  have hcl := ho.cell at_ (by rw [hv.1]; exact hat)
  obtain ⟨B, cb, hB, hr⟩ := hm.rl
  rw [hB] at hcl
  have hic : ((i : Int) % 256) = (((BitVec.ofNat 8 i : G)).toNat : Int) := by simp
  have hati : (at_ : Int) < (n : Int) := by omega
  simp only [id] at hcl
  go_enter Try.func44, Try.ntmps44
  go_wp2_with fail
  have hp' : ∀ (dr : Nat) (os : Array Obj), (grow (redrawn w dr) os).cell? ⟨p, 0, none⟩ = _ := cell_regrown hp
  have hq' : ∀ (dr : Nat) (os : Array Obj), (grow (redrawn w dr) os).cell? ⟨q, 0, none⟩ = _ := cell_regrown hq
  have hcl' : ∀ (dr : Nat) (os : Array Obj), (grow (redrawn w dr) os).cell? ⟨g0, at_, none⟩ = _ := cell_regrown hcl
  refine wp_region_quiet_below mixed (by kernel_rfl) ?_
  repeat (quiet_step ((go_at_call 22; exact Calls.regrown_of (eval_u _ _ _ _ (BitVec.ofNat 8 i) _ (hr.below (below_regrown _ _ _))))))
  refine wpQuiet_nil ?_
  rintro _ ⟨p4, rfl⟩
  have hb4 := below_regrown w p4.d p4.os
  generalize grow (redrawn w p4.d) p4.os = w4 at *
  go_wp2_with fail
  go_ret
  exact ⟨rfl, hb4⟩
end Go.Proofs.Ytillfbohengpaaa
end
section
set_option linter.unusedVariables false
set_option linter.unusedSimpArgs false
namespace Go.Proofs.Ytillfbohengpaaa
open Go.RowKit Gf Go.Sort Go.Proofs.YtillfbohengpaaaW.PrintWords Go.Proofs.YtillfbohengpaaaW.PrintLast PA
def RetOwn (e : Ending) (w' : World) (base : Nat) (l : List G) : Prop := ∃ v k, e = .returned v ∧ OwnL gv 5 w' base v k l
set_option maxRecDepth 100000 in
set_option maxHeartbeats 2000000 in
theorem split1_u (p1 p2 p3 : Nat) (A B : Option Addr) (n c n2 c2 : Nat) (l r : List G) (at_ m : Nat) (w : World) (h1 : w.cell? ⟨p1, 0, none⟩ = some (.slice A n c)) (h2 : w.cell? ⟨p2, 0, none⟩ = some (.slice B n2 c2)) (h3 : w.cell? ⟨p3, 0, none⟩ = some (.int .i64 ((m : Int) + 1)))
    (hl : RL gv w A n l) (hr : RL gv w B n2 r) (hc2 : n2 ≤ c2) (hat : at_ < n) (hn : n ≤ 1000) (hm : m ≤ 1000) (hb : (at_ + 1) * m ≤ n2) (hn2 : n2 ≤ 100000) :
    Calls Try.prog 41 #[.int .i64 (at_ : Int), .pointer (some ⟨p1, 0, none⟩), .pointer (some ⟨p2, 0, none⟩), .pointer (some ⟨p3, 0, none⟩)] w fun e w' => RetOwn e w' w.heap.size (g l at_ :: (r.drop (at_ * m)).take m) ∧ Below w.heap.size w w' := by
  obtain ⟨b, o, rfl, hbl, hcl⟩ := hl.atg at_ hat
  have hati : (at_ : Int) < (n : Int) := by omega
  have HL := Lib.hid hl
  have HR := Lib.hid hr
  clear hl hr
  have hS : ∀ w', Below w.heap.size w w' → w'.cell? ⟨p1, 0, none⟩ = some (.slice (some ⟨b, o, none⟩) n c) ∧ w'.cell? ⟨p2, 0, none⟩ = some (.slice B n2 c2) ∧ w'.cell? ⟨p3, 0, none⟩ = some (.int .i64 ((m : Int) + 1)) ∧ w'.cell? ⟨b, o + at_, none⟩ = some (gv (g l at_)) := fun w' hb => ⟨pw_cell_below hb h1, pw_cell_below hb h2, pw_cell_below hb h3, pw_cell_below hb hcl⟩
  have HS := Lib.hid hS
  clear hS
  go_enter Try.func41, Try.ntmps41
  go_wp2_with fail
  refine start_ (n := 12) (S := fun w' => w'.cell? ⟨p1, 0, none⟩ = some (.slice (some ⟨b, o, none⟩) n c) ∧ w'.cell? ⟨p2, 0, none⟩ = some (.slice B n2 c2) ∧ w'.cell? ⟨p3, 0, none⟩ = some (.int .i64 ((m : Int) + 1)) ∧ w'.cell? ⟨b, o + at_, none⟩ = some (gv (g l at_))) (ds := []) #[false, false, false, false, false, false, false, false, false, false, false, false] (by kernel_rfl) rfl rfl ⟨h1, h2, h3, hcl⟩ (fun hHeld => ?_)
  refine pure_ (i := 1) (N := some 7) (v := ?_) (a' := ?_) #[false, true, false, false, false, false, false, false, false, false, false, false] rfl rfl (by kernel_rfl) (fun _ _ _ h => h) (Or.inl ⟨by rfl, ?_⟩) ?_ ?_
  rotate_left
  · intro w'
    go_simp
    with_reducible rfl
  rotate_left
  · simp only [Act.put, List.setIfInBounds_toArray, List.set_cons_zero, List.set_cons_succ]
    rfl
  refine pure_ (i := 6) (N := some 12) (v := ?_) (a' := ?_) #[false, true, false, false, false, false, true, false, false, false, false, false] rfl rfl (by kernel_rfl) (fun _ _ _ h => h) (Or.inl ⟨by rfl, ?_⟩) ?_ ?_
  rotate_left
  · intro w'
    go_simp
    with_reducible rfl
  rotate_left
  · simp only [Act.put, List.setIfInBounds_toArray, List.set_cons_zero, List.set_cons_succ]
    rfl
  refine take_ (i := 0) (N := some 6) (v := ?_) (a' := ?_) #[true, true, false, false, false, false, true, false, false, false, false, false] rfl rfl (by kernel_rfl) (fun _ _ _ h => h) (Or.inl ⟨by rfl, ?_⟩) hHeld ?_ ?_
  rotate_left
  · intro w' hs
    obtain ⟨s1, s2, s3, s4⟩ := hs; go_simp
    with_reducible rfl
  rotate_left
  · simp only [Act.put, List.setIfInBounds_toArray, List.set_cons_zero, List.set_cons_succ]
    rfl
  refine pure_ (i := 2) (N := some 8) (v := ?_) (a' := ?_) #[true, true, true, false, false, false, true, false, false, false, false, false] rfl rfl (by kernel_rfl) (fun _ _ _ h => h) (Or.inl ⟨by rfl, ?_⟩) ?_ ?_
  rotate_left
  · intro w'
    go_simp
    with_reducible rfl
  rotate_left
  · simp only [Act.put, List.setIfInBounds_toArray, List.set_cons_zero, List.set_cons_succ]
    rfl
  refine take_ (i := 3) (N := some 9) (v := ?_) (a' := ?_) #[true, true, true, true, false, false, true, false, false, false, false, false] rfl rfl (by kernel_rfl) (fun _ _ _ h => h) (Or.inl ⟨by rfl, ?_⟩) hHeld ?_ ?_
  rotate_left
  · intro w' hs
    obtain ⟨s1, s2, s3, s4⟩ := hs; go_simp
    with_reducible rfl
  rotate_left
  · simp only [Act.put, List.setIfInBounds_toArray, List.set_cons_zero, List.set_cons_succ]
    rfl
  refine take_ (i := 5) (N := some 11) (v := ?_) (a' := ?_) #[true, true, true, true, false, true, true, false, false, false, false, false] rfl rfl (by kernel_rfl) (fun _ _ _ h => h) (Or.inl ⟨by rfl, ?_⟩) hHeld ?_ ?_
  rotate_left
  · intro w' hs
    obtain ⟨s1, s2, s3, s4⟩ := hs; go_simp
    with_reducible rfl
  rotate_left
  · simp only [Act.put, List.setIfInBounds_toArray, List.set_cons_zero, List.set_cons_succ]
    rfl
  refine take_ (i := 7) (N := some 13) (v := ?_) (a' := ?_) #[true, true, true, true, false, true, true, true, false, false, false, false] rfl rfl (by kernel_rfl) (fun _ _ _ h => h) (Or.inl ⟨by rfl, ?_⟩) hHeld ?_ ?_
  rotate_left
  · intro w' hs
    obtain ⟨s1, s2, s3, s4⟩ := hs; go_simp
    with_reducible rfl
  rotate_left
  · simp only [Act.put, List.setIfInBounds_toArray, List.set_cons_zero, List.set_cons_succ]
    rfl
  refine pure_ (i := 8) (N := some 14) (v := ?_) (a' := ?_) #[true, true, true, true, false, true, true, true, true, false, false, false] rfl rfl (by kernel_rfl) (fun _ _ _ h => h) (Or.inl ⟨by rfl, ?_⟩) ?_ ?_
  rotate_left
  · intro w'
    go_simp
    with_reducible rfl
  rotate_left
  · simp only [Act.put, List.setIfInBounds_toArray, List.set_cons_zero, List.set_cons_succ]
    rfl
  generalize hwd : w.drew = wd at *
  have hBd : Below w.heap.size w wd := by rw [← hwd]; exact below_drew (Below.refl _ _)
  clear hwd
  have hrd : RL gv wd B n2 r := HR.out.below hBd
  have hmm : ((m : Int) + 1 - 1) = (m : Int) := by omega
  have hmw : IntKind.i64.wrap (m : Int) = (m : Int) := IntWalk.i64_in _ (by omega)
  refine join_ (σ := Value × Option Addr) 2 #[true, true, true, true, true, true, true, true, true, true, false, false] (fun s => [(10, s.1), (15, .slice s.2 m m)]) (fun s W1 => (Kd.R (Kd.int .u8) 5 W1 w.heap.size (fun _ => True) s.1 [tI (g l at_)] ∧ RL gv W1 s.2 m ((r.drop (at_ * m)).take m)) ∧ Below w.heap.size w W1) ?_ (fun hJ => ?_)
  · rintro ⟨v10, B1⟩ W1 ⟨⟨hR, hC⟩, hB1⟩
    refine norm_ (a' := ?_) ?_ ?_
    rotate_left
    · simp only [putAll, List.foldl, Act.put, List.setIfInBounds_toArray, List.set_cons_zero, List.set_cons_succ]
      rfl
    refine one_ (i := 10) (N := some 16) #[true, true, true, true, true, true, true, true, true, true, true, false] rfl rfl (by kernel_rfl) (by decide) (fun K hK => ?_)
    refine Kd.R_append_rows_step (Kd.int .u8) (w0 := w) w.heap.size (by rfl) (.tmp 10) (.tmp 15) 30 5 (.int .u8 0) 1 rfl slice_u8 Try.info5 rfl (by decide) (by omega) v10 [tI (g l at_)] (((r.drop (at_ * m)).take m).map tI) _ _ _ (fun _ => True) (fun _ => False) rfl rfl hR (C_of_rl hC) (fun _ _ h => h) (fun _ h => h.elim) (fun _ _ => trivial) hB1 hB1.size (by simp; omega) ?_
    intro v1 w1 hR1 hb1 _ _
    refine hK.out _ _ (HS.out _ hb1) (fun _ => ?_)
    clear hK K
    refine norm_ (a' := ?_) ?_ ?_
    rotate_left
    · simp only [Act.put, List.setIfInBounds_toArray, List.set_cons_zero, List.set_cons_succ]
      rfl
    refine pure_ (i := 11) (N := some 5) (v := ?_) (a' := ?_) #[true, true, true, true, true, true, true, true, true, true, true, true] rfl rfl (by kernel_rfl) (fun _ _ _ h => h) (Or.inl ⟨by rfl, ?_⟩) ?_ ?_
    rotate_left
    · intro w'
      go_simp
      with_reducible rfl
    rotate_left
    · simp only [Act.put, List.setIfInBounds_toArray, List.set_cons_zero, List.set_cons_succ]
      rfl
    refine done_ (by kernel_rfl) ?_
    go_wp2_with fail
    go_ret
    exact ⟨⟨_, _, rfl, own_of_R (l := g l at_ :: (r.drop (at_ * m)).take m) hR1⟩, hb1⟩
  refine two_ (i := 4) (j := 9) (Ni := some 10) (Nj := some 15) #[true, true, true, true, true, true, true, true, true, false, false, false] #[true, true, true, true, false, true, true, true, true, true, false, false] rfl rfl rfl rfl (by kernel_rfl) (by decide) (by decide) (fun K hK => ?_) (fun K hK => ?_)
  · refine Kd.R_lit_step (Kd.int .u8) (w0 := w) w.heap.size 5 (by rfl) (N := 10) rfl (xs := [tI (g l at_)]) (inner := [gv (g l at_)]) (ok := fun _ => True) (okp := fun _ => True) (by first | (go_simp; done) | (go_simp; rfl)) (Reps.one (show Kd.M (Kd.int .u8) _ _ _ (tI (g l at_)) [gv (g l at_)] from rfl) (Reps.none _ _)) (fun _ hk => hk) trivial hBd hBd.size (by simp) ?_
    intro v1 w1 hR1 hb1 hg1 _
    refine hK.out _ _ (HS.out _ hb1) (fun _ => ?_)
    clear hK K
    refine norm_ (a' := ?_) ?_ ?_
    rotate_left
    · show Act.put _ (some 10) _ = _
      simp only [Act.put, List.setIfInBounds_toArray, List.set_cons_zero, List.set_cons_succ]
      rfl
    refine one_ (i := 9) (N := some 15) #[true, true, true, true, true, true, true, true, true, true, false, false] rfl rfl (by kernel_rfl) (by decide) (fun K hK => ?_)
    refine goes_ Try.func42 (by kernel_rfl) rfl #[.slice B n2 c2, .int .i64 (at_ : Int), .int .i64 (m : Int)] (by rfl) rfl rfl (by simp [Act.eval, hmm, hmw]) ?_
    refine (piece_u B n2 c2 r at_ m _ (HR.out.below hb1) hc2 hb hn2 (by omega) (by omega)).mono ?_
    rintro e w3 ⟨B1, rfl, hr1, rfl⟩
    refine ⟨_, rfl, ?_⟩
    refine hK.out _ _ (HS.out _ hb1) (fun _ => ?_)
    clear hK K
    refine norm_ (a' := ?_) ?_ ?_
    rotate_left
    · show Act.put _ (some 15) _ = _
      simp only [Act.put, List.setIfInBounds_toArray, List.set_cons_zero, List.set_cons_succ]
      rfl
    exact hJ (v1, B1) w1 ⟨⟨hR1, hr1⟩, hb1⟩
  · refine goes_ Try.func42 (by kernel_rfl) rfl #[.slice B n2 c2, .int .i64 (at_ : Int), .int .i64 (m : Int)] (by rfl) rfl rfl (by simp [Act.eval, hmm, hmw]) ?_
    refine (piece_u B n2 c2 r at_ m _ hrd hc2 hb hn2 (by omega) (by omega)).mono ?_
    rintro e w3 ⟨B1, rfl, hr1, rfl⟩
    refine ⟨_, rfl, ?_⟩
    refine hK.out _ _ (HS.out _ hBd) (fun _ => ?_)
    clear hK K
    refine norm_ (a' := ?_) ?_ ?_
    rotate_left
    · show Act.put _ (some 15) _ = _
      simp only [Act.put, List.setIfInBounds_toArray, List.set_cons_zero, List.set_cons_succ]
      rfl
    refine one_ (i := 4) (N := some 10) #[true, true, true, true, true, true, true, true, true, true, false, false] rfl rfl (by kernel_rfl) (by decide) (fun K hK => ?_)
    refine Kd.R_lit_step (Kd.int .u8) (w0 := w) w.heap.size 5 (by rfl) (N := 10) rfl (xs := [tI (g l at_)]) (inner := [gv (g l at_)]) (ok := fun _ => True) (okp := fun _ => True) (by first | (go_simp; done) | (go_simp; rfl)) (Reps.one (show Kd.M (Kd.int .u8) _ _ _ (tI (g l at_)) [gv (g l at_)] from rfl) (Reps.none _ _)) (fun _ hk => hk) trivial hBd hBd.size (by simp) ?_
    intro v1 w1 hR1 hb1 hg1 _
    refine hK.out _ _ (HS.out _ hb1) (fun _ => ?_)
    clear hK K
    refine norm_ (a' := ?_) ?_ ?_
    rotate_left
    · show Act.put _ (some 10) _ = _
      simp only [Act.put, List.setIfInBounds_toArray, List.set_cons_zero, List.set_cons_succ]
      rfl
    exact hJ (v1, B1) w1 ⟨⟨hR1, hr1.below (grown_below hg1)⟩, hb1⟩
end Go.Proofs.Ytillfbohengpaaa
end
section
set_option linter.unusedVariables false
set_option linter.unusedSimpArgs false
namespace Go.Proofs.Ytillfbohengpaaa
open Go.RowKit Gf Go.Sort Go.Proofs.YtillfbohengpaaaW.PrintWords PA
def lineG (secret coins : List G) (m at_ : Nat) : List G := g secret at_ :: (coins.drop (at_ * m)).take m
def dataG (secret coins : List G) (m i : Nat) : List G := (List.range secret.length).map fun at_ => ev (lineG secret coins m at_) (BitVec.ofNat 8 i)
def shareG (secret coins : List G) (ep : Int) (m n i : Nat) : Sh := ⟨ep, (i : Int), (m : Int) + 1, (n : Int), dataG secret coins m i⟩
def splitTo (secret coins : List G) (ep : Int) (m n k : Nat) : List Sh := (List.range k).map fun j => shareG secret coins ep m n (j + 1)
theorem splitTo_succ (secret coins : List G) (ep : Int) (m n k : Nat) : splitTo secret coins ep m n (k + 1) = splitTo secret coins ep m n k ++ [shareG secret coins ep m n (k + 1)] := by simp [splitTo, List.range_succ]
def splitErr (len coins : Nat) (ep th mn : Int) : Int :=
  if 64 < len then 1 else if th < 1 ∨ mn < th ∨ 8 < mn then 80 else if ep < 0 ∨ 1048576 < ep then 81 else if (coins : Int) ≠ (len : Int) * (th - 1) then 1 else 0
def RetSh (e : Ending) (w' : World) (base : Nat) (l : List Sh) (er : Int) : Prop := ∃ v, e = .returned (.tuple #[v, .int .i64 er]) ∧ Kd.S k52 52 w' base (fun _ => True) v (l.map sI)
theorem RetSh.none (w' : World) (base : Nat) (er : Int) : RetSh (.returned (.tuple #[.slice none 0 0, .int .i64 er])) w' base [] er := ⟨_, rfl, Kd.S_nil _ _ _ _ _⟩
theorem Try.info52 : (Try.prog.info? 52).map (fun i => (i.zero, i.size, i.bytes)) = some (some (.agg #[(.int .i64 0), (.int .i64 0), (.int .i64 0), (.int .i64 0), (.slice none 0 0)]), 5, 56) := by kernel_rfl
theorem slice_sh : Try.prog.underlying 37 = some (.slice 52) := by kernel_rfl
section
variable (A B : Option Addr) (n c n2 c2 : Nat) (l r : List G) (ep th mn : Int) (w : World)
set_option maxRecDepth 100000 in
set_option maxHeartbeats 2000000 in
theorem split_bad (hl : RL gv w A n l) (hr : RL gv w B n2 r) (hn : n ≤ 100000) (hn2 : n2 ≤ 100000) (er : Int) (he : splitErr n n2 ep th mn = er) (h0 : er ≠ 0) :
    Calls Try.prog 25 #[.slice A n c, .int .i64 ep, .int .i64 th, .int .i64 mn, .slice B n2 c2] w fun e w' => RetSh e w' w.heap.size [] er ∧ Below w.heap.size w w' := by
  unfold splitErr at he
  clear hl hr
  by_cases q1 : 64 < n
  · rw [if_pos q1] at he
    have d1 : decide ((64 : Int) < (n : Int)) = true := decide_eq_true (by omega)
    subst he
    clear h0
    go_enter Try.func25, Try.ntmps25
    go_wp2_with fail
    go_ret2
    exact ⟨RetSh.none _ _ _, balloc (balloc (below_alloc1 _ _) _) _⟩
  rw [if_neg q1] at he
  have d1 : decide ((64 : Int) < (n : Int)) = false := decide_eq_false (by omega)
  by_cases q2 : th < 1 ∨ mn < th ∨ 8 < mn
  · rw [if_pos q2] at he
    subst he
    clear h0
    rcases q2 with q2 | q2
    · have d2 : decide (th < 1) = true := decide_eq_true q2
      go_enter Try.func25, Try.ntmps25
      go_wp2_with fail
      go_ret2
      exact ⟨RetSh.none _ _ _, balloc (balloc (below_alloc1 _ _) _) _⟩
    by_cases q20 : th < 1
    · have d2 : decide (th < 1) = true := decide_eq_true q20
      go_enter Try.func25, Try.ntmps25
      go_wp2_with fail
      go_ret2
      exact ⟨RetSh.none _ _ _, balloc (balloc (below_alloc1 _ _) _) _⟩
    have d2 : decide (th < 1) = false := decide_eq_false q20
    by_cases q21 : mn < th
    · have d3 : decide (mn < th) = true := decide_eq_true q21
      go_enter Try.func25, Try.ntmps25
      go_wp2_with fail
      go_ret2
      exact ⟨RetSh.none _ _ _, balloc (balloc (below_alloc1 _ _) _) _⟩
    have d3 : decide (mn < th) = false := decide_eq_false q21
    have d4 : decide (8 < mn) = true := decide_eq_true (by omega)
    go_enter Try.func25, Try.ntmps25
    go_wp2_with fail
    go_ret2
    exact ⟨RetSh.none _ _ _, balloc (balloc (below_alloc1 _ _) _) _⟩
  rw [if_neg q2] at he
  have d2 : decide (th < 1) = false := decide_eq_false (by omega)
  have d3 : decide (mn < th) = false := decide_eq_false (by omega)
  have d4 : decide (8 < mn) = false := decide_eq_false (by omega)
  have q2' : 1 ≤ th ∧ th ≤ 8 := by omega
  by_cases q3 : ep < 0 ∨ 1048576 < ep
  · rw [if_pos q3] at he
    subst he
    clear h0
    by_cases q30 : ep < 0
    · have d5 : decide (ep < 0) = true := decide_eq_true q30
      clear q2 q3
      go_enter Try.func25, Try.ntmps25
      go_wp2_with fail
      go_ret2
      exact ⟨RetSh.none _ _ _, balloc (balloc (below_alloc1 _ _) _) _⟩
    · have d5 : decide (ep < 0) = false := decide_eq_false q30
      have d6 : decide (1048576 < ep) = true := decide_eq_true (by omega)
      clear q2 q3
      go_enter Try.func25, Try.ntmps25
      go_wp2_with fail
      go_ret2
      exact ⟨RetSh.none _ _ _, balloc (balloc (below_alloc1 _ _) _) _⟩
  rw [if_neg q3] at he
  have d5 : decide (ep < 0) = false := decide_eq_false (by omega)
  have d6 : decide (1048576 < ep) = false := decide_eq_false (by omega)
  by_cases q4 : (n2 : Int) ≠ (n : Int) * (th - 1)
  case neg => rw [if_neg q4] at he; exact absurd he.symm h0
  rw [if_pos q4] at he
  subst he
  obtain ⟨m, rfl⟩ : ∃ m : Nat, th = (m : Int) + 1 := ⟨(th - 1).toNat, by omega⟩
  have hm8 : m ≤ 7 := by omega
  have hnm : n * m ≤ 700000 := Nat.le_trans (Nat.mul_le_mul hn hm8) (by omega)
  have ew : wrap64 ((n : Int) * (m : Int)) = (n : Int) * (m : Int) := by
    have h2 : (n : Int) * (m : Int) = ((n * m : Nat) : Int) := by simp
    rw [h2]; unfold wrap64; omega
  have d7 : ((n2 : Int) == (n : Int) * (m : Int)) = false := by
    rw [beq_eq_false_iff_ne]
    intro e; apply q4; rw [e]; congr 1; omega
  have d8 : ((n2 : Int) != (n : Int) * (m : Int)) = true := by rw [bne, d7]; rfl
  clear q2 q3 q4 h0 hnm
  go_enter Try.func25, Try.ntmps25
  go_wp2_with fail
  go_ret2
  exact ⟨RetSh.none _ _ _, balloc (balloc (below_alloc1 _ _) _) _⟩
end
end Go.Proofs.Ytillfbohengpaaa
end
section
set_option linter.unusedVariables false
set_option linter.unusedSimpArgs false
namespace Go.Proofs.Ytillfbohengpaaa
open Go.RowKit Gf Go.Sort Go.Proofs.YtillfbohengpaaaW.PrintWords PA
theorem callf {f : FuncId} {fn : Func} (hf : Try.prog.funcs[f]? = some fn) (hname : (fn.name == "runtime.NumGoroutine") = false) (hb : fn.body.isSome = true) : ∀ args W, Sem.run Try.prog (callFunc f args) W = .ok (.enter f args) W := fun args W => Go.Proofs.YtillfbohengpaaaW.PrintLast.enters_ hf hname hb args W
set_option maxRecDepth 100000 in
set_option maxHeartbeats 2000000 in
theorem split_ok (A B : Option Addr) (n c n2 c2 mn m : Nat) (l r : List G) (ep : Int) (w : World) (hl : RL gv w A n l) (hr : RL gv w B n2 r) (hc2 : n2 ≤ c2) (hn : n ≤ 64) (hm : m + 1 ≤ mn) (hmn : mn ≤ 8) (he0 : 0 ≤ ep) (he1 : ep ≤ 1048576) (hn2 : n2 = n * m) :
    Calls Try.prog 25 #[.slice A n c, .int .i64 ep, .int .i64 ((m : Int) + 1), .int .i64 (mn : Int), .slice B n2 c2] w fun e w' => RetSh e w' w.heap.size (splitTo l r ep m mn mn) 0 ∧ Below w.heap.size w w' := by
  have hll := hl.1
  have d1 : decide ((64 : Int) < (n : Int)) = false := decide_eq_false (by omega)
  have d2 : decide ((m : Int) + 1 < 1) = false := decide_eq_false (by omega)
  have d3 : decide ((mn : Int) < (m : Int) + 1) = false := decide_eq_false (by omega)
  have d4 : decide ((8 : Int) < (mn : Int)) = false := decide_eq_false (by omega)
  have d5 : decide (ep < 0) = false := decide_eq_false (by omega)
  have d6 : decide (1048576 < ep) = false := decide_eq_false (by omega)
  have hm7 : m ≤ 7 := by omega
  have hnm : n * m ≤ 448 := Nat.le_trans (Nat.mul_le_mul hn hm7) (by omega)
  have e2 : (n : Int) * (m : Int) = (n2 : Int) := by rw [hn2]; simp
  have ew : wrap64 ((n : Int) * (m : Int)) = (n2 : Int) := by rw [e2]; unfold wrap64; omega
  have hn2' : n2 ≤ 448 := by omega
  have HL := Lib.hid hl
  have HR := Lib.hid hr
  have HN := Lib.hid hn2
  have HLL := Lib.hid hll
  clear hl hr hn2 hnm hll e2
  go_enter Try.func25, Try.ntmps25
  go_wp2_with fail
  have hW : ∀ y : World, y = ((w.alloc (.cells #[.slice A n c] 30)).alloc (.cells #[.int .i64 ((m : Int) + 1)] 3)).alloc (.cells #[.slice B n2 c2] 30) →
      Below w.heap.size w y ∧ y.cell? ⟨w.heap.size, 0, none⟩ = some (.slice A n c) ∧ y.cell? ⟨w.heap.size + 1, 0, none⟩ = some (.int .i64 ((m : Int) + 1)) ∧ y.cell? ⟨w.heap.size + 1 + 1, 0, none⟩ = some (.slice B n2 c2) := by
    rintro y rfl
    refine ⟨balloc (balloc (below_alloc1 _ _) _) _, ?_, ?_, ?_⟩
    · rw [cell_old _ _ _ (by simp; omega), cell_old _ _ _ (by simp), cell_new _ _ _ _ _ _ rfl]; rfl
    · rw [cell_old _ _ _ (by simp), cell_new _ _ _ _ _ _ (by simp)]; rfl
    · rw [cell_new _ _ _ _ _ _ (by simp)]; rfl
  generalize hW0 : ((w.alloc (.cells #[.slice A n c] 30)).alloc (.cells #[.int .i64 ((m : Int) + 1)] 3)).alloc (.cells #[.slice B n2 c2] 30) = W0
  obtain ⟨hB0, hp1, hp2, hp3⟩ := hW W0 hW0.symm
  clear hW hW0
  refine (columns_sl 41 _ n (lineG l r m) W0 (by omega) (callf Try.func41 (by kernel_rfl) rfl) (fun at_ W hat hBW => ?_)).mono ?_
  · have hb : (at_ + 1) * m ≤ n2 := by rw [HN.out]; exact Nat.mul_le_mul_right _ hat
    refine (split1_u _ _ _ A B n c n2 c2 l r at_ m W (pw_cell_below hBW hp1) (pw_cell_below hBW hp3) (pw_cell_below hBW hp2) (HL.out.below (bthen hB0 hBW)) (HR.out.below (bthen hB0 hBW)) hc2 hat (by omega) (by omega) hb (by omega)).mono ?_
    rintro e w' ⟨⟨v, k, rfl, ho⟩, hb'⟩
    exact ⟨v, k, rfl, ho, hb'⟩
  rintro e w1 ⟨lv, vs, rfl, ho, hv, hb1⟩
  have hB1 := bthen hB0 hb1
  replace hp1 := pw_cell_below hb1 hp1
  replace hp2 := pw_cell_below hb1 hp2
  obtain ⟨LA, LC, rfl, hnc⟩ := ho.any
  have HO := Lib.hid ho
  have HV := Lib.hid hv
  clear ho hv
  go_wp2_with fail
  have hW : ∀ y : World, y = (w1.alloc (.cells #[.slice LA n LC] 50)).alloc (.cells #[.int .i64 1] 3) →
      Below w1.heap.size w1 y ∧ y.heap[w1.heap.size]? = some (.cells #[.slice LA n LC] 50 (0, 0)) ∧ y.heap[w1.heap.size + 1]? = some (.cells #[.int .i64 (((0 : Nat) : Int) + 1)] 3 (0, 0)) := by
    rintro y rfl
    refine ⟨balloc (below_alloc1 _ _) _, ?_, ?_⟩
    · exact blk_alloc (heap_alloc_new w1 _) _
    · have := heap_alloc_new (w1.alloc (.cells #[.slice LA n LC] 50)) (.cells #[.int .i64 1] 3)
      simpa using this
  generalize hW2 : (w1.alloc (.cells #[.slice LA n LC] 50)).alloc (.cells #[.int .i64 1] 3) = W2
  obtain ⟨hb2, hp12, hq2⟩ := hW W2 hW2.symm
  clear hW hW2
  have hB2 := bthen hB1 hb2
  have h1s := hb1.size
  have h0s := hB0.size
  go_loopg [10, 13] mn (fun kq v10 v13 wr => ∃ (k q : Nat), kq + k = mn ∧ v13 = .pointer (some ⟨q, 0, none⟩) ∧ Hid (wr.heap[q]? = some (.cells #[.int .i64 ((k : Int) + 1)] 3 (0, 0))) ∧ w.heap.size ≤ q ∧
    Kd.S k52 52 wr w1.heap.size (fun _ => True) v10 ((splitTo l r ep m mn k).map sI) ∧ Below w1.heap.size w1 wr ∧ Below w.heap.size w wr ∧ Hid (wr.heap[w1.heap.size]? = some (.cells #[.slice LA n LC] 50 (0, 0))))
  case atStart => exact ⟨0, w1.heap.size + 1, by omega, rfl, hq2, by omega, Kd.S_nil _ _ _ _ _, hb2, hB2, hp12⟩
  case round =>
    clear hp12 hq2 hb2 hB2
    obtain ⟨k, q, hkq, rfl, hq, hqb, hS, hb2, hB2, hpb⟩ := hrel
    have hp12 : wr.cell? ⟨w1.heap.size, 0, none⟩ = some (.slice LA n LC) := by rw [blk_cell hpb.out]; rfl
    have hqc : wr.cell? ⟨q, 0, none⟩ = some (.int .i64 ((k : Int) + 1)) := by rw [blk_cell hq.out]; rfl
    have hqf : wr.frozen? ⟨q, 0, none⟩ = false := blk_frozen hq.out 0
    have hqd := pw_cell_below hb2 hp1
    have hqe := pw_cell_below hb2 hp2
    by_cases hlt : k < mn
    · have hk1 : (k : Int) + 1 ≤ (mn : Int) := by omega
      go_wp2_with fail
      refine (columns_u8 44 _ n (fun at_ => ev (lineG l r m at_) (BitVec.ofNat 8 (k + 1))) wr (by omega) (callf Try.func44 (by kernel_rfl) rfl) (fun at_ W hat hBW => ?_)).mono ?_
      · exact split2_u _ _ LA n LC vs (lineG l r m) _ (k + 1) at_ W (pw_cell_below hBW hp12) (pw_cell_below hBW hqc) (HO.out.below (bthen hb2 hBW)) (HV.out.below (bthen hb2 hBW)) hat (by omega)
      rintro e w3 ⟨dv, rfl, hod, hb3⟩
      obtain ⟨DA, DC, rfl, _⟩ := hod.any
      have hB3 := bthen hB2 hb3
      have hS3 := Kd.S_elder' hS (fun k hk => (hod.lt k hk).1) hb3
      have hq3 : w3.heap[q]? = some (.cells #[.int .i64 ((k : Int) + 1)] 3 (0, 0)) := (hb3.block q (blk_lt hq.out)).trans hq.out
      have hqc3 := pw_cell_below hb3 hqc
      have hqe3 := pw_cell_below hb3 hqe
      have HP3 := Lib.hid (show w3.heap[w1.heap.size]? = _ from (hb3.block _ (blk_lt hpb.out)).trans hpb.out)
      have hb23 := bthenB hb2 hb2.size hb3
      have hdat : (List.range n).map (fun at_ => ev (lineG l r m at_) (BitVec.ofNat 8 (k + 1))) = dataG l r m (k + 1) := by unfold dataG; rw [HLL.out]
      rw [hdat] at hod
      have hM : k52.M w3 w1.heap.size (fun k_ => some k_ = (Value.slice DA n DC).ownBlock) (sI (shareG l r ep m mn (k + 1))) [.int .i64 ep, .int .i64 ((k : Int) + 1), .int .i64 ((m : Int) + 1), .int .i64 (mn : Int), .slice DA n DC] :=
        k52_mkM _ _ _ (sI (shareG l r ep m mn (k + 1))) (R_of_own (hod.rebase hb2.size) (fun _ h => h.symm))
      have hap : ∀ k_, some k_ = (Value.slice DA n DC).ownBlock → True ∧ some k_ ≠ u10.ownBlock := fun k_ hk => ⟨trivial, fun e => by
        have h1 := (hod.lt k_ hk.symm).1
        have h2 := Kd.S_lt hS k_ e.symm
        omega⟩
      have HM := Lib.hid hM
      have HAP := Lib.hid hap
      have HD := Lib.hid hdat
      have HS3 := Lib.hid (Kd.S_mono hS3 (ok' := fun k_ => True ∧ ¬ some k_ = (Value.slice DA n DC).ownBlock) (fun _ h => h))
      have HQ3 := Lib.hid hq3
      have hlen : ((splitTo l r ep m mn k).map sI).length = k := by simp [splitTo]
      have HLEN := Lib.hid hlen
      have HNP := Lib.hid (Kd.S_ne HS3.out HP3.out (by decide))
      have HNE := Lib.hid (Kd.S_ne HS3.out HQ3.out (by decide))
      clear hM hap hdat hS3 hod hq3 hlen hS hqc hqf hqe hp12
      go_wp2_with (at_builtin; refine Kd.S_append k52 (w0 := w1) w1.heap.size rfl (.tmp 60) (.tmp 67) 37 52 (.agg #[(.int .i64 0), (.int .i64 0), (.int .i64 0), (.int .i64 0), (.slice none 0 0)]) 56 rfl slice_sh Try.info52 rfl (by decide) (by omega) u10 ((splitTo l r ep m mn k).map sI) (sI (shareG l r ep m mn (k + 1))) [.int .i64 ep, .int .i64 ((k : Int) + 1), .int .i64 ((m : Int) + 1), .int .i64 (mn : Int), .slice DA n DC] (fun _ => True) (fun k_ => some k_ = (Value.slice DA n DC).ownBlock) rfl rfl HM.out HAP.out (fun _ _ => trivial) HS3.out hb23 hb23.size (by rw [HLEN.out]; omega) ?_; intro v5 w5 hS5 hB5 hg5 hat5; have hq5 := blk_grown HQ3.out hg5 HNE.out; have hqc5 : w5.cell? ⟨q, 0, none⟩ = some (.int .i64 ((k : Int) + 1)) := (by rw [blk_cell hq5]; rfl); have HQ5 := Lib.hid hq5; have HS5 := Lib.hid hS5; clear hq5 hS5)
      go_roundg (mn - (k + 1))
      case measure => omega
      case rel =>
        refine ⟨k + 1, w5.heap.size, by omega, rfl, ?_, ?_, ?_, ?_, ?_, ?_⟩
        · have := heap_alloc_new w5 (.cells #[.int .i64 ((k : Int) + 1 + 1)] 3)
          exact this
        · have := (bthen hB1 hB5).size; omega
        · rw [splitTo_succ, List.map_append]
          exact Kd.S_alloc HS5.out _
        · exact balloc hB5 _
        · exact balloc (bthen hB1 hB5) _
        · exact blk_alloc (blk_grown HP3.out hg5 HNP.out) _
    · obtain rfl : k = mn := by omega
      have hk1 : (k : Int) < (k : Int) + 1 := by omega
      go_wp2_with fail
      go_ret2
      exact ⟨⟨_, rfl, Kd.S_lower hS (by omega)⟩, hB2⟩
end Go.Proofs.Ytillfbohengpaaa
end
section
set_option linter.unusedVariables false
set_option linter.unusedSimpArgs false
namespace Go.Proofs.Ytillfbohengpaaa
open Go.RowKit Gf Go.Proofs.YtillfbohengpaaaW.PrintWords PA
theorem tI_gI_mod (x : Int) : tI (gI x) = x % 256 := by
  unfold tI gI
  rw [BitVec.toNat_ofInt]
  omega
def xsG (l : List Sh) : List G := l.map fun s => gI s.ix
def ysG (l : List Sh) (at_ : Nat) : List G := l.map fun s => g s.da at_
theorem rd_map (l : List G) (i : Nat) (h : i < l.length) : rd (l.map tI) (i : Int) = tI (g l i) := by simp [rd, h, g_eq]
theorem rdT_map (l : List Sh) (i : Nat) (h : i < l.length) : rd_T52 (l.map sI) (i : Int) = sI l[i] := by simp [rd_T52, h]
theorem take_succ_map {α β : Type} (f : α → β) (l : List α) (i : Nat) (h : i < l.length) : (l.take (i + 1)).map f = (l.take i).map f ++ [f l[i]] := by
  rw [List.take_succ_eq_append_getElem h, List.map_append]; rfl
theorem w64 (x : Int) (h0 : -9223372036854775808 ≤ x) (h1 : x ≤ 9223372036854775807) : wrap64 x = x := by unfold wrap64; omega
theorem pts_l (L : List Sh) (at_ : Nat) (h : ∀ s ∈ L, at_ < s.da.length) (hl : L.length ≤ 100000) : ∀ d i k, i + d = L.length → d < k →
    shares_points.l0 k (at_ : Int) ((xsG (L.take i)).map tI) ((ysG (L.take i) at_).map tI) (L.map sI) (L.length : Int) (i : Int) = some ((xsG L).map tI, (ysG L at_).map tI) := by
  intro d
  induction d with
  | zero =>
    intro i k hi hk
    obtain ⟨k, rfl⟩ : ∃ m, k = m + 1 := ⟨k - 1, by omega⟩
    simp only [shares_points.l0]
    rw [if_neg (by omega), List.take_of_length_le (by omega)]
  | succ d ih =>
    intro i k hi hk
    obtain ⟨k, rfl⟩ : ∃ m, k = m + 1 := ⟨k - 1, by omega⟩
    have hil : i < L.length := by omega
    have hm := h L[i] (List.getElem_mem hil)
    simp only [shares_points.l0]
    rw [if_pos (by omega), if_pos (by omega), if_pos (by rw [List.length_map]; omega), rdT_map L i hil]
    simp only [Option.bind_some]
    rw [if_pos (by simp [xsG]; omega), if_pos (by omega), if_pos (by simp [sI]; omega)]
    simp only [sI]
    rw [rd_map _ _ hm, if_pos (by simp [ysG]; omega), w64 _ (by omega) (by omega)]
    have h1 : (xsG (L.take i)).map tI ++ [L[i].ix % 256] = (xsG (L.take (i + 1))).map tI := by
      unfold xsG
      rw [take_succ_map _ _ _ hil, List.map_append, ← tI_gI_mod]; rfl
    have h2 : (ysG (L.take i) at_).map tI ++ [tI (g L[i].da at_)] = (ysG (L.take (i + 1)) at_).map tI := by
      unfold ysG
      rw [take_succ_map _ _ _ hil, List.map_append]; rfl
    rw [h1, h2]
    exact ih (i + 1) k (by omega) (by omega)
theorem pts_f (L : List Sh) (at_ : Nat) (h : ∀ s ∈ L, at_ < s.da.length) (hl : L.length ≤ 100000) (k : Nat) (hk : L.length < k) :
    shares_points.f k (L.map sI) (at_ : Int) = some ((xsG L).map tI, (ysG L at_).map tI) := by
  unfold shares_points.f
  rw [List.length_map]
  exact pts_l L at_ h hl L.length 0 k (by omega) hk
def RetTwo (e : Ending) (w' : World) (n : Nat) (xs ys : List G) : Prop := ∃ X Y cx cy, e = .returned (.tuple #[.slice X n cx, .slice Y n cy]) ∧ RL gv w' X n xs ∧ RL gv w' Y n ys
theorem rl_of_R {E : TypeId} {w : World} {base : Nat} {ok : Nat → Prop} {v : Value} {l : List G} (h : Kd.R (Kd.int .u8) E w base ok v (l.map tI)) : ∃ A c, v = .slice A l.length c ∧ RL gv w A l.length l := (own_of_R h).rl
theorem points_sh (A : Option Addr) (c n : Nat) (L : List Sh) (at_ : Nat) (w : World) (hC : Kd.C k52 w A n (L.map sI)) (hc : n ≤ c) (h : ∀ s ∈ L, at_ < s.da.length) (hl : n ≤ 100000) :
    Calls Try.prog 50 #[.slice A n c, .int .i64 (at_ : Int)] w fun e w' => RetTwo e w' n (xsG L) (ysG L at_) ∧ Below w.heap.size w w' := by
  have hn : L.length = n := by have := hC.1; rwa [List.length_map] at this
  subst hn
  have hm : (L.map sI).length = L.length := List.length_map ..
  have := shares_points.calls (L.length + 1) A c (L.map sI) (at_ : Int) _ _ w (by rw [hm]; exact hC) (by rw [hm]; exact hc) (pts_f L at_ h hl _ (by omega))
  rw [hm] at this
  refine this.mono ?_
  rintro e w' ⟨v0, v1, rfl, h0, h1, hb⟩
  obtain ⟨X, cx, rfl, hx⟩ := rl_of_R h0
  obtain ⟨Y, cy, rfl, hy⟩ := rl_of_R h1
  rw [show (xsG L).length = L.length from by simp [xsG]] at hx
  rw [show (ysG L at_).length = L.length from by simp [ysG]] at hy
  refine ⟨⟨X, Y, cx, cy, ?_, hx, hy⟩, hb⟩
  rw [show (xsG L).length = L.length from by simp [xsG], show (ysG L at_).length = L.length from by simp [ysG]]
theorem C_take {w : World} {A : Option Addr} {n t : Nat} {l : List S52} (h : Kd.C k52 w A n l) (ht : t ≤ n) : Kd.C k52 w A t (l.take t) := by
  refine ⟨by rw [List.length_take]; have := h.1; omega, by have := h.2.1; omega, fun h0 => ?_⟩
  obtain ⟨ad, e, hc⟩ := h.2.2 (by omega)
  refine ⟨ad, e, fun j p hj => hc j p ?_⟩
  rw [List.getElem?_take] at hj
  split at hj
  · exact hj
  · cases hj
end Go.Proofs.Ytillfbohengpaaa
end
section
set_option linter.unusedVariables false
set_option linter.unusedSimpArgs false
namespace Go.Proofs.Ytillfbohengpaaa
open Gf
theorem chain_spec (a : Sh) : ∀ (l : List Sh) (last : Int), chainB a last l = true → (∀ s ∈ l, s.th = a.th ∧ s.mn = a.mn ∧ s.da.length = a.da.length ∧ last < s.ix ∧ s.ix ≤ a.mn) ∧ l.Pairwise (fun x y => x.ix < y.ix)
  | [], _, _ => ⟨fun _ h => by simp at h, List.Pairwise.nil⟩
  | s :: r, last, h => by
    simp only [chainB, okAt, Bool.and_eq_true, decide_eq_true_eq] at h
    obtain ⟨⟨⟨⟨⟨h1, h2⟩, h3⟩, h4⟩, h5⟩, h6⟩ := h
    obtain ⟨k1, k2⟩ := chain_spec a r s.ix h6
    refine ⟨fun x hx => ?_, List.Pairwise.cons (fun y hy => (k1 y hy).2.2.2.1) k2⟩
    rcases List.mem_cons.1 hx with rfl | hx
    · exact ⟨h1, h2, h3, h4, by omega⟩
    · obtain ⟨g1, g2, g3, g4, g5⟩ := k1 x hx
      exact ⟨g1, g2, g3, by omega, g5⟩
theorem chain_of (a : Sh) : ∀ (l : List Sh) (last : Int), (∀ s ∈ l, s.th = a.th ∧ s.mn = a.mn ∧ s.da.length = a.da.length ∧ last < s.ix ∧ s.ix ≤ a.mn) → l.Pairwise (fun x y => x.ix < y.ix) → chainB a last l = true
  | [], _, _, _ => rfl
  | s :: r, last, h, hp => by
    obtain ⟨g1, g2, g3, g4, g5⟩ := h s List.mem_cons_self
    rw [List.pairwise_cons] at hp
    have := chain_of a r s.ix (fun x hx => by obtain ⟨k1, k2, k3, k4, k5⟩ := h x (List.mem_cons_of_mem _ hx); exact ⟨k1, k2, k3, hp.1 x hx, k5⟩) hp.2
    simp only [chainB, okAt, Bool.and_eq_true, decide_eq_true_eq]
    exact ⟨⟨⟨⟨⟨g1, g2⟩, g3⟩, g4⟩, by omega⟩, this⟩
structure Alike (a : Sh) (r : List Sh) : Prop where
  t1 : 1 ≤ a.th
  t2 : a.th ≤ a.mn
  t3 : a.mn ≤ 8
  d : a.da.length ≤ 64
  all : ∀ s ∈ a :: r, s.th = a.th ∧ s.mn = a.mn ∧ s.da.length = a.da.length ∧ 0 < s.ix ∧ s.ix ≤ a.mn
  inc : (a :: r).Pairwise (fun x y => x.ix < y.ix)
theorem alike_spec (a : Sh) (r : List Sh) : alikeB (a :: r) = true ↔ Alike a r := by
  constructor
  · intro h
    simp only [alikeB, headB, Bool.and_eq_true, decide_eq_true_eq] at h
    obtain ⟨⟨⟨⟨h1, h2⟩, h3⟩, h4⟩, h5⟩ := h
    obtain ⟨k1, k2⟩ := chain_spec a (a :: r) 0 h5
    exact ⟨h1, h2, h3, h4, k1, k2⟩
  · intro h
    simp only [alikeB, headB, Bool.and_eq_true, decide_eq_true_eq]
    exact ⟨⟨⟨⟨h.t1, h.t2⟩, h.t3⟩, h.d⟩, chain_of a _ 0 h.all h.inc⟩
theorem eps_spec (a : Sh) (l : List Sh) : epsB a l = true ↔ ∀ s ∈ l, s.ep = a.ep ∧ 0 ≤ s.ep ∧ s.ep ≤ 1048576 := by
  unfold epsB
  rw [List.all_eq_true]
  simp only [epOk, Bool.and_eq_true, decide_eq_true_eq, and_assoc]
theorem checkR_cons (a : Sh) (r : List Sh) : checkR (a :: r) = if alikeB (a :: r) = true then epR (epsB a (a :: r)) else 80 := rfl
theorem epR_zero {b : Bool} (h : epR b = 0) : b = true := by cases b <;> simp [epR] at h ⊢
theorem check0 {L : List Sh} (h : checkR L = 0) : ∃ a r, L = a :: r ∧ Alike a r ∧ ∀ s ∈ L, s.ep = a.ep ∧ 0 ≤ s.ep ∧ s.ep ≤ 1048576 := by
  cases L with
  | nil => simp [checkR] at h
  | cons a r =>
    rw [checkR_cons] at h
    by_cases ha : alikeB (a :: r) = true
    · rw [if_pos ha] at h
      exact ⟨a, r, rfl, (alike_spec a r).1 ha, (eps_spec a _).1 (epR_zero h)⟩
    · rw [if_neg ha] at h
      simp at h
theorem gI_lt {x y : Int} (hx : 0 ≤ x ∧ x < 256) (hy : 0 ≤ y ∧ y < 256) (h : x ≠ y) : gI x ≠ gI y := fun e => h (by rw [← tI_gI x hx.1 hx.2, e, tI_gI y hy.1 hy.2])
theorem xs_nodup {l : List Sh} (h : ∀ s ∈ l, 0 < s.ix ∧ s.ix ≤ 8) (hp : l.Pairwise (fun x y => x.ix < y.ix)) : (xsG l).Nodup := by
  unfold xsG List.Nodup
  rw [List.pairwise_map]
  refine List.Pairwise.imp_of_mem (fun {x y} hx hy hxy => ?_) hp
  have h1 := h x hx
  have h2 := h y hy
  exact gI_lt ⟨by omega, by omega⟩ ⟨by omega, by omega⟩ (by omega)
theorem Alike.nodup_take {a : Sh} {r : List Sh} (h : Alike a r) (t : Nat) : (xsG ((a :: r).take t)).Nodup :=
  xs_nodup (fun s hs => by obtain ⟨_, _, _, h4, h5⟩ := h.all s (List.mem_of_mem_take hs); have := h.t3; omega) (h.inc.sublist (List.take_sublist _ _))
theorem inc_len : ∀ (l : List Sh) (lo : Int) (hi : Int), (∀ s ∈ l, lo < s.ix ∧ s.ix ≤ hi) → l.Pairwise (fun x y => x.ix < y.ix) → (l.length : Int) ≤ hi - lo ∨ l = []
  | [], _, _, _, _ => .inr rfl
  | s :: r, lo, hi, h, hp => by
    rw [List.pairwise_cons] at hp
    obtain ⟨h1, h2⟩ := h s List.mem_cons_self
    rcases inc_len r s.ix hi (fun x hx => ⟨hp.1 x hx, (h x (List.mem_cons_of_mem _ hx)).2⟩) hp.2 with k | k
    · left; simp only [List.length_cons]; omega
    · subst k; left; simp only [List.length_cons, List.length_nil]; omega
theorem Alike.len {a : Sh} {r : List Sh} (h : Alike a r) : ((a :: r).length : Int) ≤ a.mn := by
  rcases inc_len (a :: r) 0 a.mn (fun s hs => ⟨(h.all s hs).2.2.2.1, (h.all s hs).2.2.2.2⟩) h.inc with k | k
  · omega
  · cases k
end Go.Proofs.Ytillfbohengpaaa
end
section
set_option linter.unusedVariables false
set_option linter.unusedSimpArgs false
namespace Go.Proofs.Ytillfbohengpaaa
open Go.RowKit Gf
set_option maxRecDepth 100000 in
theorem ralike_nil (A : Option Addr) (c : Nat) (w : World) :
    Calls Try.prog 47 #[.slice A 0 c] w fun e w' => e = .returned (.bool false) ∧ Below w.heap.size w w' := by
  go_enter Try.func47, Try.ntmps47
  go_wp2_with fail
  go_ret
  exact ⟨rfl, Below.refl _ _⟩
theorem ralike_s (A : Option Addr) (n c : Nat) (L : List Sh) (w : World) (h : RS w A n L) : Calls Try.prog 47 #[.slice A n c] w fun e w' => e = .returned (.bool (alikeB L)) ∧ Below w.heap.size w w' := by
  cases L with
  | nil =>
    obtain rfl : n = 0 := by have := h.1; simpa using this.symm
    exact ralike_nil A c w
  | cons a r => exact ralike_u A c n a r w h
end Go.Proofs.Ytillfbohengpaaa
end
section
namespace Go.Proofs.Ytillfbohengpaaa.PA
open Go.RowKit Go.Proofs.YtillfbohengpaaaW.PrintWords Go.Proofs.YtillfbohengpaaaW.PrintLast Go.Proofs.YtillfbohengpaaaW.PrintMore
attribute [local go_sem] max2_int min2_int max_two min_two max_three min_three max_four min_four   -- for this text's walks alone
set_option linter.unusedVariables false
set_option linter.unusedSimpArgs false
def testamurref08_alike.f (l0 : List S52) : Option Bool := if okS l0 = true then some (alikeB (l0.map shG)) else none
theorem testamurref08_alike.calls (A0 : Option Addr) (c0 : Nat) (l0 : List S52) (r : Bool) (w : World) (hr0 : Kd.C k52 w A0 l0.length l0) (hc0 : l0.length ≤ c0) (h : testamurref08_alike.f l0 = some r) :
    Calls Try.prog 47 #[.slice A0 l0.length c0] w fun e w' => e = .returned (.bool r) ∧ Below w.heap.size w w' := by
  unfold testamurref08_alike.f at h
  split at h
  · rename_i ho
    obtain ⟨L, rfl⟩ := ex_okS ho
    rw [shG_map] at h
    injection h with h
    subst h
    exact ralike_s _ _ _ _ _ (rs_of_C hr0)
  · cases h
end Go.Proofs.Ytillfbohengpaaa.PA
end
section
namespace Go.Proofs.Ytillfbohengpaaa.PA
open Go.RowKit Go.Proofs.YtillfbohengpaaaW.PrintWords Go.Proofs.YtillfbohengpaaaW.PrintLast Go.Proofs.YtillfbohengpaaaW.PrintMore
attribute [local go_sem] max2_int min2_int max_two min_two max_three min_three max_four min_four   -- for this text's walks alone
set_option linter.unusedVariables false
set_option linter.unusedSimpArgs false
def testamurref08_Check.l0 : Nat → List (S52) → Int → Option (Int)
  | 0, _, _ => none
  | k + 1, x0, x3 => if x3 < (x0.length : Int) then (if 0 ≤ x3 then (if 0 < (x0.length : Int) then (if ((rd_T52 x0 x3).f0) = ((rd_T52 x0 0).f0) then (if ((rd_T52 x0 x3).f0) < 0 then (some 81) else (if ((rd_T52 x0 x3).f0) > 1048576 then (some 81) else (testamurref08_Check.l0 k x0 (wrap64 (x3 + 1))))) else (some 81)) else (none)) else (none)) else (some 0)
def testamurref08_Check.f (k : Nat) (l0 : List (S52)) : Option (Int) := (testamurref08_alike.f l0).bind fun t121 => (if t121 = true then (testamurref08_Check.l0 k l0 0) else (some 80))
theorem testamurref08_Check.mono_l : ∀ k, (∀ y0 y1, LeO (testamurref08_Check.l0 k y0 y1) (testamurref08_Check.l0 (k + 1) y0 y1))
  | 0 => fun _ _ r h => by simp [testamurref08_Check.l0] at h
  | k + 1 => by
    have ih0 := testamurref08_Check.mono_l k
    · intro y0 y1
      unfold testamurref08_Check.l0
      repeat' first
      | (with_reducible exact ih0 _ _)
      | (with_reducible exact LeO.refl _)
      | (with_reducible exact LeO.none _)
      | (with_reducible refine LeO.ite ?_ ?_)
      | (with_reducible refine LeO.bind ?_ (fun _ => ?_))
      | exact ih0 _ _
      | exact LeO.none _
      | refine LeO.ite ?_ ?_
      | refine LeO.bind ?_ (fun _ => ?_)
theorem testamurref08_Check.mono : ∀ a0 k, LeO (testamurref08_Check.f k a0) (testamurref08_Check.f (k + 1) a0) := by
  intro a0 k
  have ih0 := testamurref08_Check.mono_l k
  unfold testamurref08_Check.f
  repeat' first
      | (with_reducible exact ih0 _ _)
      | (with_reducible exact LeO.refl _)
      | (with_reducible exact LeO.none _)
      | (with_reducible refine LeO.ite ?_ ?_)
      | (with_reducible refine LeO.bind ?_ (fun _ => ?_))
      | exact ih0 _ _
      | exact LeO.none _
      | refine LeO.ite ?_ ?_
      | refine LeO.bind ?_ (fun _ => ?_)
set_option maxHeartbeats 8000000 in
set_option maxRecDepth 100000 in
theorem testamurref08_Check.calls (k : Nat) (A0 : Option Addr) (c0 : Nat) (l0 : List (S52)) (r : Int) (w : World) (hr0 : Kd.C k52 w A0 l0.length l0) (hc0 : l0.length ≤ c0) (h : testamurref08_Check.f k l0 = some r) :
    Calls Try.prog 28 #[.slice A0 l0.length c0] w fun e w' => e = .returned (.int .i64 r) ∧ Below w.heap.size w w' := by
  have HR0 := Aside0.mk hr0
  have HC0 := Aside0.mk hc0
  clear hr0 hc0
  have HB := Aside0.mk (Below.refl w.heap.size w)
  have H : ((testamurref08_alike.f l0).bind fun t121 => (if t121 = true then (testamurref08_Check.l0 k l0 0) else (some 80))) = some r := h
  clear h
  replace H := Option.bind_eq_some_iff.mp H
  obtain ⟨t121, A20, H⟩ := H
  replace H : (if t121 = true then (testamurref08_Check.l0 k l0 0) else (some 80)) = some r := H
  have A2 := Aside0.mk A20
  clear A20
  by_cases c3 : t121 = true
  · subst c3
    have H1 : (testamurref08_Check.l0 k l0 0) = some r := by rw [if_pos rfl] at H; exact H
    clear H
    have H := H1
    clear H1
    have H' := Aside0.mk H
    clear H
    go_enter Try.func28, Try.ntmps28
    go_wp2_with (first | (go_at_call 47; (with_reducible refine (testamurref08_alike.calls _ _ l0 true _ ?side1 ?side2 A2.out).mono ?_); (case side1 => repeat (first | exact HR0.out | (with_reducible refine Kd.C_alloc ?_ _) | (with_reducible refine Kd.C_drewN ?_ _) | (with_reducible refine Kd.C_drew ?_))); (case side2 => exact HC0.out); rintro e w4 ⟨rfl, hb⟩; have n0_ := Aside0.mk (below_step (by repeat (first | (with_reducible first | exact HB.out | apply below_alloc | apply pw_below_drewN | apply below_drew1) | exact HB.out)) hb); clear HB; have HB := n0_; clear n0_; (try clear hb); (try clear hb2); (try clear hk); (try clear hi)))
    repeat (go_quiet (first | (go_at_call 47; (with_reducible refine (testamurref08_alike.calls _ _ l0 true _ ?side1 ?side2 A2.out).mono ?_); (case side1 => repeat (first | exact HR0.out | (with_reducible refine Kd.C_alloc ?_ _) | (with_reducible refine Kd.C_drewN ?_ _) | (with_reducible refine Kd.C_drew ?_))); (case side2 => exact HC0.out); rintro e w4 ⟨rfl, hb⟩; have n0_ := Aside0.mk (below_step (by repeat (first | (with_reducible first | exact HB.out | apply below_alloc | apply pw_below_drewN | apply below_drew1) | exact HB.out)) hb); clear HB; have HB := n0_; clear n0_; (try clear hb); (try clear hb2); (try clear hk); (try clear hi))); try go_wp2_with (first | (go_at_call 47; (with_reducible refine (testamurref08_alike.calls _ _ l0 true _ ?side1 ?side2 A2.out).mono ?_); (case side1 => repeat (first | exact HR0.out | (with_reducible refine Kd.C_alloc ?_ _) | (with_reducible refine Kd.C_drewN ?_ _) | (with_reducible refine Kd.C_drew ?_))); (case side2 => exact HC0.out); rintro e w4 ⟨rfl, hb⟩; have n0_ := Aside0.mk (below_step (by repeat (first | (with_reducible first | exact HB.out | apply below_alloc | apply pw_below_drewN | apply below_drew1) | exact HB.out)) hb); clear HB; have HB := n0_; clear n0_; (try clear hb); (try clear hb2); (try clear hk); (try clear hi))))
    go_loopg [3] k (fun kq v3 w' => ∃ (x3_1 : Int), v3 = .int .i64 x3_1 ∧ Aside0 (testamurref08_Check.l0 kq l0 x3_1 = some r) ∧ Aside0 (kq ≤ k) ∧ Aside0 (Below w.heap.size w w'))
    case atStart => exact ⟨(0), (by first | rfl | (simp; done) | (simp [*]; done)), H', ⟨Nat.le_refl _⟩, ⟨by repeat (first | (with_reducible first | exact HB.out | apply below_alloc | apply pw_below_drewN | apply below_drew1) | exact HB.out)⟩⟩
    case round =>
      clear H'
      try clear c2
      try clear p2
      try clear c3
      obtain ⟨x3_1, rfl, HA, HK1, HB⟩ := hrel
      cases gk with
      | zero => exact absurd HA.out (by simp [testamurref08_Check.l0])
      | succ k1 =>
        have H := HA.out
        clear HA
        simp only [testamurref08_Check.l0] at H
        by_cases c5 : x3_1 < (l0.length : Int)
        · rw [if_pos c5] at H
          have c5b0 : decide (x3_1 < (l0.length : Int)) = true := decide_eq_true c5
          clear c5
          by_cases c6 : 0 ≤ x3_1
          · rw [if_pos c6] at H
            have c6b0 : decide (0 ≤ x3_1) = true := decide_eq_true c6
            clear c6
            by_cases c7 : 0 < (l0.length : Int)
            · rw [if_pos c7] at H
              have c7b0 : decide (0 < (l0.length : Int)) = true := decide_eq_true c7
              have c7b1 : decide (0 < l0.length) = true := decide_eq_true (by omega)
              clear c7
              by_cases c8 : ((rd_T52 l0 x3_1).f0) = ((rd_T52 l0 0).f0)
              · rw [if_pos c8] at H
                have c8b0 : (((rd_T52 l0 x3_1).f0) == ((rd_T52 l0 0).f0)) = true := beq_iff_eq.mpr c8
                have c8b1 : (((rd_T52 l0 x3_1).f0) != ((rd_T52 l0 0).f0)) = false := bne_eq_false_iff_eq.mpr c8
                clear c8
                by_cases c9 : ((rd_T52 l0 x3_1).f0) < 0
                · rw [if_pos c9] at H
                  have c9b0 : decide (((rd_T52 l0 x3_1).f0) < 0) = true := decide_eq_true c9
                  clear c9
                  obtain rfl := Option.some.inj H
                  have p122 : 0 ≤ (x3_1 : Int) := of_decide_eq_true (by first | (with_reducible assumption) | assumption)
                  have q122 : x3_1 < (l0.length : Int) := of_decide_eq_true (by first | (with_reducible assumption) | assumption)
                  obtain ⟨ad122, A122_4, c122_4, e122, hx122_0, hx122_1, hx122_2, hx122_3, hx122_4, hl122_4, hi122_4⟩ := at_T52 HR0.out x3_1 p122 q122
                  cases e122
                  replace hx122_0 := (HB.out.cell (World.block_lt_of_cell? w _ hx122_0)).trans hx122_0
                  replace hx122_1 := (HB.out.cell (World.block_lt_of_cell? w _ hx122_1)).trans hx122_1
                  replace hx122_2 := (HB.out.cell (World.block_lt_of_cell? w _ hx122_2)).trans hx122_2
                  replace hx122_3 := (HB.out.cell (World.block_lt_of_cell? w _ hx122_3)).trans hx122_3
                  replace hx122_4 := (HB.out.cell (World.block_lt_of_cell? w _ hx122_4)).trans hx122_4
                  have HR122_4 := Aside0.mk hi122_4
                  have HC122_4 := Aside0.mk hl122_4
                  clear hi122_4 hl122_4
                  replace p122 := eq_true p122
                  replace q122 := eq_true q122
                  have p123 : 0 ≤ (0 : Int) := (by omega)
                  have q123 : 0 < (l0.length : Int) := of_decide_eq_true (by first | (with_reducible assumption) | assumption)
                  obtain ⟨ad123, A123_4, c123_4, e123, hx123_0, hx123_1, hx123_2, hx123_3, hx123_4, hl123_4, hi123_4⟩ := at_T52 HR0.out 0 p123 q123
                  obtain rfl : ad122 = ad123 := (by injection e123)
                  have qi123 : (0 < l0.length) = True := eq_true (by omega)
                  (try rw [show ((0 : Int)).toNat = 0 from rfl] at hx123_0)
                  (try rw [show 0 * 5 = 0 from rfl] at hx123_0)
                  (try rw [Addr.add_zero'] at hx123_0)
                  (try rw [show ((0 : Int)).toNat = 0 from rfl] at hx123_1)
                  (try rw [show 0 * 5 = 0 from rfl] at hx123_1)
                  (try rw [Addr.add_zero'] at hx123_1)
                  (try rw [show ((0 : Int)).toNat = 0 from rfl] at hx123_2)
                  (try rw [show 0 * 5 = 0 from rfl] at hx123_2)
                  (try rw [Addr.add_zero'] at hx123_2)
                  (try rw [show ((0 : Int)).toNat = 0 from rfl] at hx123_3)
                  (try rw [show 0 * 5 = 0 from rfl] at hx123_3)
                  (try rw [Addr.add_zero'] at hx123_3)
                  (try rw [show ((0 : Int)).toNat = 0 from rfl] at hx123_4)
                  (try rw [show 0 * 5 = 0 from rfl] at hx123_4)
                  (try rw [Addr.add_zero'] at hx123_4)
                  replace hx123_0 := (HB.out.cell (World.block_lt_of_cell? w _ hx123_0)).trans hx123_0
                  replace hx123_1 := (HB.out.cell (World.block_lt_of_cell? w _ hx123_1)).trans hx123_1
                  replace hx123_2 := (HB.out.cell (World.block_lt_of_cell? w _ hx123_2)).trans hx123_2
                  replace hx123_3 := (HB.out.cell (World.block_lt_of_cell? w _ hx123_3)).trans hx123_3
                  replace hx123_4 := (HB.out.cell (World.block_lt_of_cell? w _ hx123_4)).trans hx123_4
                  have HR123_4 := Aside0.mk hi123_4
                  have HC123_4 := Aside0.mk hl123_4
                  clear hi123_4 hl123_4
                  replace p123 := eq_true p123
                  replace q123 := eq_true q123
                  have p124 : 0 ≤ (x3_1 : Int) := of_decide_eq_true (by first | (with_reducible assumption) | assumption)
                  have q124 : x3_1 < (l0.length : Int) := of_decide_eq_true (by first | (with_reducible assumption) | assumption)
                  obtain ⟨ad124, A124_4, c124_4, e124, hx124_0, hx124_1, hx124_2, hx124_3, hx124_4, hl124_4, hi124_4⟩ := at_T52 HR0.out x3_1 p124 q124
                  obtain rfl : ad122 = ad124 := (by injection e124)
                  replace hx124_0 := (HB.out.cell (World.block_lt_of_cell? w _ hx124_0)).trans hx124_0
                  replace hx124_1 := (HB.out.cell (World.block_lt_of_cell? w _ hx124_1)).trans hx124_1
                  replace hx124_2 := (HB.out.cell (World.block_lt_of_cell? w _ hx124_2)).trans hx124_2
                  replace hx124_3 := (HB.out.cell (World.block_lt_of_cell? w _ hx124_3)).trans hx124_3
                  replace hx124_4 := (HB.out.cell (World.block_lt_of_cell? w _ hx124_4)).trans hx124_4
                  have HR124_4 := Aside0.mk hi124_4
                  have HC124_4 := Aside0.mk hl124_4
                  clear hi124_4 hl124_4
                  replace p124 := eq_true p124
                  replace q124 := eq_true q124
                  have ea_ := Option.some.inj (hx122_4.symm.trans hx124_4)
                  injection ea_ with ea_ en_ ec_
                  subst ea_
                  subst ec_
                  clear en_
                  go_wp2
                  repeat (go_quiet (fail); try go_wp2)
                  go_ret
                  exact ⟨by first | rfl | (simp [errW_none, errW_some] <;> rfl) | (simp [*, errW_none, errW_some] <;> rfl), by repeat (first | (with_reducible first | exact HB.out | apply below_alloc | apply pw_below_drewN | apply below_drew1) | exact HB.out)⟩
                · rw [if_neg c9] at H
                  have c9b0 : decide (((rd_T52 l0 x3_1).f0) < 0) = false := decide_eq_false c9
                  clear c9
                  by_cases c10 : ((rd_T52 l0 x3_1).f0) > 1048576
                  · rw [if_pos c10] at H
                    have c10b0 : decide (1048576 < ((rd_T52 l0 x3_1).f0)) = true := decide_eq_true c10
                    clear c10
                    obtain rfl := Option.some.inj H
                    have p122 : 0 ≤ (x3_1 : Int) := of_decide_eq_true (by first | (with_reducible assumption) | assumption)
                    have q122 : x3_1 < (l0.length : Int) := of_decide_eq_true (by first | (with_reducible assumption) | assumption)
                    obtain ⟨ad122, A122_4, c122_4, e122, hx122_0, hx122_1, hx122_2, hx122_3, hx122_4, hl122_4, hi122_4⟩ := at_T52 HR0.out x3_1 p122 q122
                    cases e122
                    replace hx122_0 := (HB.out.cell (World.block_lt_of_cell? w _ hx122_0)).trans hx122_0
                    replace hx122_1 := (HB.out.cell (World.block_lt_of_cell? w _ hx122_1)).trans hx122_1
                    replace hx122_2 := (HB.out.cell (World.block_lt_of_cell? w _ hx122_2)).trans hx122_2
                    replace hx122_3 := (HB.out.cell (World.block_lt_of_cell? w _ hx122_3)).trans hx122_3
                    replace hx122_4 := (HB.out.cell (World.block_lt_of_cell? w _ hx122_4)).trans hx122_4
                    have HR122_4 := Aside0.mk hi122_4
                    have HC122_4 := Aside0.mk hl122_4
                    clear hi122_4 hl122_4
                    replace p122 := eq_true p122
                    replace q122 := eq_true q122
                    have p123 : 0 ≤ (0 : Int) := (by omega)
                    have q123 : 0 < (l0.length : Int) := of_decide_eq_true (by first | (with_reducible assumption) | assumption)
                    obtain ⟨ad123, A123_4, c123_4, e123, hx123_0, hx123_1, hx123_2, hx123_3, hx123_4, hl123_4, hi123_4⟩ := at_T52 HR0.out 0 p123 q123
                    obtain rfl : ad122 = ad123 := (by injection e123)
                    have qi123 : (0 < l0.length) = True := eq_true (by omega)
                    (try rw [show ((0 : Int)).toNat = 0 from rfl] at hx123_0)
                    (try rw [show 0 * 5 = 0 from rfl] at hx123_0)
                    (try rw [Addr.add_zero'] at hx123_0)
                    (try rw [show ((0 : Int)).toNat = 0 from rfl] at hx123_1)
                    (try rw [show 0 * 5 = 0 from rfl] at hx123_1)
                    (try rw [Addr.add_zero'] at hx123_1)
                    (try rw [show ((0 : Int)).toNat = 0 from rfl] at hx123_2)
                    (try rw [show 0 * 5 = 0 from rfl] at hx123_2)
                    (try rw [Addr.add_zero'] at hx123_2)
                    (try rw [show ((0 : Int)).toNat = 0 from rfl] at hx123_3)
                    (try rw [show 0 * 5 = 0 from rfl] at hx123_3)
                    (try rw [Addr.add_zero'] at hx123_3)
                    (try rw [show ((0 : Int)).toNat = 0 from rfl] at hx123_4)
                    (try rw [show 0 * 5 = 0 from rfl] at hx123_4)
                    (try rw [Addr.add_zero'] at hx123_4)
                    replace hx123_0 := (HB.out.cell (World.block_lt_of_cell? w _ hx123_0)).trans hx123_0
                    replace hx123_1 := (HB.out.cell (World.block_lt_of_cell? w _ hx123_1)).trans hx123_1
                    replace hx123_2 := (HB.out.cell (World.block_lt_of_cell? w _ hx123_2)).trans hx123_2
                    replace hx123_3 := (HB.out.cell (World.block_lt_of_cell? w _ hx123_3)).trans hx123_3
                    replace hx123_4 := (HB.out.cell (World.block_lt_of_cell? w _ hx123_4)).trans hx123_4
                    have HR123_4 := Aside0.mk hi123_4
                    have HC123_4 := Aside0.mk hl123_4
                    clear hi123_4 hl123_4
                    replace p123 := eq_true p123
                    replace q123 := eq_true q123
                    have p124 : 0 ≤ (x3_1 : Int) := of_decide_eq_true (by first | (with_reducible assumption) | assumption)
                    have q124 : x3_1 < (l0.length : Int) := of_decide_eq_true (by first | (with_reducible assumption) | assumption)
                    obtain ⟨ad124, A124_4, c124_4, e124, hx124_0, hx124_1, hx124_2, hx124_3, hx124_4, hl124_4, hi124_4⟩ := at_T52 HR0.out x3_1 p124 q124
                    obtain rfl : ad122 = ad124 := (by injection e124)
                    replace hx124_0 := (HB.out.cell (World.block_lt_of_cell? w _ hx124_0)).trans hx124_0
                    replace hx124_1 := (HB.out.cell (World.block_lt_of_cell? w _ hx124_1)).trans hx124_1
                    replace hx124_2 := (HB.out.cell (World.block_lt_of_cell? w _ hx124_2)).trans hx124_2
                    replace hx124_3 := (HB.out.cell (World.block_lt_of_cell? w _ hx124_3)).trans hx124_3
                    replace hx124_4 := (HB.out.cell (World.block_lt_of_cell? w _ hx124_4)).trans hx124_4
                    have HR124_4 := Aside0.mk hi124_4
                    have HC124_4 := Aside0.mk hl124_4
                    clear hi124_4 hl124_4
                    replace p124 := eq_true p124
                    replace q124 := eq_true q124
                    have ea_ := Option.some.inj (hx122_4.symm.trans hx124_4)
                    injection ea_ with ea_ en_ ec_
                    subst ea_
                    subst ec_
                    clear en_
                    have p125 : 0 ≤ (x3_1 : Int) := of_decide_eq_true (by first | (with_reducible assumption) | assumption)
                    have q125 : x3_1 < (l0.length : Int) := of_decide_eq_true (by first | (with_reducible assumption) | assumption)
                    obtain ⟨ad125, A125_4, c125_4, e125, hx125_0, hx125_1, hx125_2, hx125_3, hx125_4, hl125_4, hi125_4⟩ := at_T52 HR0.out x3_1 p125 q125
                    obtain rfl : ad122 = ad125 := (by injection e125)
                    replace hx125_0 := (HB.out.cell (World.block_lt_of_cell? w _ hx125_0)).trans hx125_0
                    replace hx125_1 := (HB.out.cell (World.block_lt_of_cell? w _ hx125_1)).trans hx125_1
                    replace hx125_2 := (HB.out.cell (World.block_lt_of_cell? w _ hx125_2)).trans hx125_2
                    replace hx125_3 := (HB.out.cell (World.block_lt_of_cell? w _ hx125_3)).trans hx125_3
                    replace hx125_4 := (HB.out.cell (World.block_lt_of_cell? w _ hx125_4)).trans hx125_4
                    have HR125_4 := Aside0.mk hi125_4
                    have HC125_4 := Aside0.mk hl125_4
                    clear hi125_4 hl125_4
                    replace p125 := eq_true p125
                    replace q125 := eq_true q125
                    have ea_ := Option.some.inj (hx122_4.symm.trans hx125_4)
                    injection ea_ with ea_ en_ ec_
                    subst ea_
                    subst ec_
                    clear en_
                    go_wp2
                    repeat (go_quiet (fail); try go_wp2)
                    go_ret
                    exact ⟨by first | rfl | (simp [errW_none, errW_some] <;> rfl) | (simp [*, errW_none, errW_some] <;> rfl), by repeat (first | (with_reducible first | exact HB.out | apply below_alloc | apply pw_below_drewN | apply below_drew1) | exact HB.out)⟩
                  · rw [if_neg c10] at H
                    have c10b0 : decide (1048576 < ((rd_T52 l0 x3_1).f0)) = false := decide_eq_false c10
                    clear c10
                    have H' := Aside0.mk H
                    clear H
                    have p122 : 0 ≤ (x3_1 : Int) := of_decide_eq_true (by first | (with_reducible assumption) | assumption)
                    have q122 : x3_1 < (l0.length : Int) := of_decide_eq_true (by first | (with_reducible assumption) | assumption)
                    obtain ⟨ad122, A122_4, c122_4, e122, hx122_0, hx122_1, hx122_2, hx122_3, hx122_4, hl122_4, hi122_4⟩ := at_T52 HR0.out x3_1 p122 q122
                    cases e122
                    replace hx122_0 := (HB.out.cell (World.block_lt_of_cell? w _ hx122_0)).trans hx122_0
                    replace hx122_1 := (HB.out.cell (World.block_lt_of_cell? w _ hx122_1)).trans hx122_1
                    replace hx122_2 := (HB.out.cell (World.block_lt_of_cell? w _ hx122_2)).trans hx122_2
                    replace hx122_3 := (HB.out.cell (World.block_lt_of_cell? w _ hx122_3)).trans hx122_3
                    replace hx122_4 := (HB.out.cell (World.block_lt_of_cell? w _ hx122_4)).trans hx122_4
                    have HR122_4 := Aside0.mk hi122_4
                    have HC122_4 := Aside0.mk hl122_4
                    clear hi122_4 hl122_4
                    replace p122 := eq_true p122
                    replace q122 := eq_true q122
                    have p123 : 0 ≤ (0 : Int) := (by omega)
                    have q123 : 0 < (l0.length : Int) := of_decide_eq_true (by first | (with_reducible assumption) | assumption)
                    obtain ⟨ad123, A123_4, c123_4, e123, hx123_0, hx123_1, hx123_2, hx123_3, hx123_4, hl123_4, hi123_4⟩ := at_T52 HR0.out 0 p123 q123
                    obtain rfl : ad122 = ad123 := (by injection e123)
                    have qi123 : (0 < l0.length) = True := eq_true (by omega)
                    (try rw [show ((0 : Int)).toNat = 0 from rfl] at hx123_0)
                    (try rw [show 0 * 5 = 0 from rfl] at hx123_0)
                    (try rw [Addr.add_zero'] at hx123_0)
                    (try rw [show ((0 : Int)).toNat = 0 from rfl] at hx123_1)
                    (try rw [show 0 * 5 = 0 from rfl] at hx123_1)
                    (try rw [Addr.add_zero'] at hx123_1)
                    (try rw [show ((0 : Int)).toNat = 0 from rfl] at hx123_2)
                    (try rw [show 0 * 5 = 0 from rfl] at hx123_2)
                    (try rw [Addr.add_zero'] at hx123_2)
                    (try rw [show ((0 : Int)).toNat = 0 from rfl] at hx123_3)
                    (try rw [show 0 * 5 = 0 from rfl] at hx123_3)
                    (try rw [Addr.add_zero'] at hx123_3)
                    (try rw [show ((0 : Int)).toNat = 0 from rfl] at hx123_4)
                    (try rw [show 0 * 5 = 0 from rfl] at hx123_4)
                    (try rw [Addr.add_zero'] at hx123_4)
                    replace hx123_0 := (HB.out.cell (World.block_lt_of_cell? w _ hx123_0)).trans hx123_0
                    replace hx123_1 := (HB.out.cell (World.block_lt_of_cell? w _ hx123_1)).trans hx123_1
                    replace hx123_2 := (HB.out.cell (World.block_lt_of_cell? w _ hx123_2)).trans hx123_2
                    replace hx123_3 := (HB.out.cell (World.block_lt_of_cell? w _ hx123_3)).trans hx123_3
                    replace hx123_4 := (HB.out.cell (World.block_lt_of_cell? w _ hx123_4)).trans hx123_4
                    have HR123_4 := Aside0.mk hi123_4
                    have HC123_4 := Aside0.mk hl123_4
                    clear hi123_4 hl123_4
                    replace p123 := eq_true p123
                    replace q123 := eq_true q123
                    have p124 : 0 ≤ (x3_1 : Int) := of_decide_eq_true (by first | (with_reducible assumption) | assumption)
                    have q124 : x3_1 < (l0.length : Int) := of_decide_eq_true (by first | (with_reducible assumption) | assumption)
                    obtain ⟨ad124, A124_4, c124_4, e124, hx124_0, hx124_1, hx124_2, hx124_3, hx124_4, hl124_4, hi124_4⟩ := at_T52 HR0.out x3_1 p124 q124
                    obtain rfl : ad122 = ad124 := (by injection e124)
                    replace hx124_0 := (HB.out.cell (World.block_lt_of_cell? w _ hx124_0)).trans hx124_0
                    replace hx124_1 := (HB.out.cell (World.block_lt_of_cell? w _ hx124_1)).trans hx124_1
                    replace hx124_2 := (HB.out.cell (World.block_lt_of_cell? w _ hx124_2)).trans hx124_2
                    replace hx124_3 := (HB.out.cell (World.block_lt_of_cell? w _ hx124_3)).trans hx124_3
                    replace hx124_4 := (HB.out.cell (World.block_lt_of_cell? w _ hx124_4)).trans hx124_4
                    have HR124_4 := Aside0.mk hi124_4
                    have HC124_4 := Aside0.mk hl124_4
                    clear hi124_4 hl124_4
                    replace p124 := eq_true p124
                    replace q124 := eq_true q124
                    have ea_ := Option.some.inj (hx122_4.symm.trans hx124_4)
                    injection ea_ with ea_ en_ ec_
                    subst ea_
                    subst ec_
                    clear en_
                    have p125 : 0 ≤ (x3_1 : Int) := of_decide_eq_true (by first | (with_reducible assumption) | assumption)
                    have q125 : x3_1 < (l0.length : Int) := of_decide_eq_true (by first | (with_reducible assumption) | assumption)
                    obtain ⟨ad125, A125_4, c125_4, e125, hx125_0, hx125_1, hx125_2, hx125_3, hx125_4, hl125_4, hi125_4⟩ := at_T52 HR0.out x3_1 p125 q125
                    obtain rfl : ad122 = ad125 := (by injection e125)
                    replace hx125_0 := (HB.out.cell (World.block_lt_of_cell? w _ hx125_0)).trans hx125_0
                    replace hx125_1 := (HB.out.cell (World.block_lt_of_cell? w _ hx125_1)).trans hx125_1
                    replace hx125_2 := (HB.out.cell (World.block_lt_of_cell? w _ hx125_2)).trans hx125_2
                    replace hx125_3 := (HB.out.cell (World.block_lt_of_cell? w _ hx125_3)).trans hx125_3
                    replace hx125_4 := (HB.out.cell (World.block_lt_of_cell? w _ hx125_4)).trans hx125_4
                    have HR125_4 := Aside0.mk hi125_4
                    have HC125_4 := Aside0.mk hl125_4
                    clear hi125_4 hl125_4
                    replace p125 := eq_true p125
                    replace q125 := eq_true q125
                    have ea_ := Option.some.inj (hx122_4.symm.trans hx125_4)
                    injection ea_ with ea_ en_ ec_
                    subst ea_
                    subst ec_
                    clear en_
                    go_wp2
                    repeat (go_quiet (fail); try go_wp2)
                    go_roundg k1
                    case measure => have := HK1.out; omega
                    case rel => exact ⟨(wrap64 (x3_1 + 1)), (by first | rfl | (simp; done) | (simp [*]; done)), H', ⟨by have := HK1.out; omega⟩, ⟨by repeat (first | (with_reducible first | exact HB.out | apply below_alloc | apply pw_below_drewN | apply below_drew1) | exact HB.out)⟩⟩
              · rw [if_neg c8] at H
                have c8b0 : (((rd_T52 l0 x3_1).f0) == ((rd_T52 l0 0).f0)) = false := beq_eq_false_iff_ne.mpr c8
                have c8b1 : (((rd_T52 l0 x3_1).f0) != ((rd_T52 l0 0).f0)) = true := bne_iff_ne.mpr c8
                obtain rfl := Option.some.inj H
                have p122 : 0 ≤ (x3_1 : Int) := of_decide_eq_true (by first | (with_reducible assumption) | assumption)
                have q122 : x3_1 < (l0.length : Int) := of_decide_eq_true (by first | (with_reducible assumption) | assumption)
                obtain ⟨ad122, A122_4, c122_4, e122, hx122_0, hx122_1, hx122_2, hx122_3, hx122_4, hl122_4, hi122_4⟩ := at_T52 HR0.out x3_1 p122 q122
                cases e122
                replace hx122_0 := (HB.out.cell (World.block_lt_of_cell? w _ hx122_0)).trans hx122_0
                replace hx122_1 := (HB.out.cell (World.block_lt_of_cell? w _ hx122_1)).trans hx122_1
                replace hx122_2 := (HB.out.cell (World.block_lt_of_cell? w _ hx122_2)).trans hx122_2
                replace hx122_3 := (HB.out.cell (World.block_lt_of_cell? w _ hx122_3)).trans hx122_3
                replace hx122_4 := (HB.out.cell (World.block_lt_of_cell? w _ hx122_4)).trans hx122_4
                have HR122_4 := Aside0.mk hi122_4
                have HC122_4 := Aside0.mk hl122_4
                clear hi122_4 hl122_4
                replace p122 := eq_true p122
                replace q122 := eq_true q122
                have p123 : 0 ≤ (0 : Int) := (by omega)
                have q123 : 0 < (l0.length : Int) := of_decide_eq_true (by first | (with_reducible assumption) | assumption)
                obtain ⟨ad123, A123_4, c123_4, e123, hx123_0, hx123_1, hx123_2, hx123_3, hx123_4, hl123_4, hi123_4⟩ := at_T52 HR0.out 0 p123 q123
                obtain rfl : ad122 = ad123 := (by injection e123)
                have qi123 : (0 < l0.length) = True := eq_true (by omega)
                (try rw [show ((0 : Int)).toNat = 0 from rfl] at hx123_0)
                (try rw [show 0 * 5 = 0 from rfl] at hx123_0)
                (try rw [Addr.add_zero'] at hx123_0)
                (try rw [show ((0 : Int)).toNat = 0 from rfl] at hx123_1)
                (try rw [show 0 * 5 = 0 from rfl] at hx123_1)
                (try rw [Addr.add_zero'] at hx123_1)
                (try rw [show ((0 : Int)).toNat = 0 from rfl] at hx123_2)
                (try rw [show 0 * 5 = 0 from rfl] at hx123_2)
                (try rw [Addr.add_zero'] at hx123_2)
                (try rw [show ((0 : Int)).toNat = 0 from rfl] at hx123_3)
                (try rw [show 0 * 5 = 0 from rfl] at hx123_3)
                (try rw [Addr.add_zero'] at hx123_3)
                (try rw [show ((0 : Int)).toNat = 0 from rfl] at hx123_4)
                (try rw [show 0 * 5 = 0 from rfl] at hx123_4)
                (try rw [Addr.add_zero'] at hx123_4)
                replace hx123_0 := (HB.out.cell (World.block_lt_of_cell? w _ hx123_0)).trans hx123_0
                replace hx123_1 := (HB.out.cell (World.block_lt_of_cell? w _ hx123_1)).trans hx123_1
                replace hx123_2 := (HB.out.cell (World.block_lt_of_cell? w _ hx123_2)).trans hx123_2
                replace hx123_3 := (HB.out.cell (World.block_lt_of_cell? w _ hx123_3)).trans hx123_3
                replace hx123_4 := (HB.out.cell (World.block_lt_of_cell? w _ hx123_4)).trans hx123_4
                have HR123_4 := Aside0.mk hi123_4
                have HC123_4 := Aside0.mk hl123_4
                clear hi123_4 hl123_4
                replace p123 := eq_true p123
                replace q123 := eq_true q123
                go_wp2
                repeat (go_quiet (fail); try go_wp2)
                go_ret
                exact ⟨by first | rfl | (simp [errW_none, errW_some] <;> rfl) | (simp [*, errW_none, errW_some] <;> rfl), by repeat (first | (with_reducible first | exact HB.out | apply below_alloc | apply pw_below_drewN | apply below_drew1) | exact HB.out)⟩
            · rw [if_neg c7] at H
              exact absurd H (by simp)
          · rw [if_neg c6] at H
            exact absurd H (by simp)
        · rw [if_neg c5] at H
          have c5b0 : decide (x3_1 < (l0.length : Int)) = false := decide_eq_false c5
          clear c5
          obtain rfl := Option.some.inj H
          go_wp2
          repeat (go_quiet (fail); try go_wp2)
          go_ret
          exact ⟨by first | rfl | (simp [errW_none, errW_some] <;> rfl) | (simp [*, errW_none, errW_some] <;> rfl), by repeat (first | (with_reducible first | exact HB.out | apply below_alloc | apply pw_below_drewN | apply below_drew1) | exact HB.out)⟩
  · replace c3 := Bool.eq_false_iff.mpr c3
    subst c3
    have H1 : (some 80) = some r := by rw [if_neg (show ¬ (false = true) by decide)] at H; exact H
    clear H
    have H := H1
    clear H1
    obtain rfl := Option.some.inj H
    go_enter Try.func28, Try.ntmps28
    go_wp2_with (first | (go_at_call 47; (with_reducible refine (testamurref08_alike.calls _ _ l0 false _ ?side1 ?side2 A2.out).mono ?_); (case side1 => repeat (first | exact HR0.out | (with_reducible refine Kd.C_alloc ?_ _) | (with_reducible refine Kd.C_drewN ?_ _) | (with_reducible refine Kd.C_drew ?_))); (case side2 => exact HC0.out); rintro e w11 ⟨rfl, hb⟩; have n0_ := Aside0.mk (below_step (by repeat (first | (with_reducible first | exact HB.out | apply below_alloc | apply pw_below_drewN | apply below_drew1) | exact HB.out)) hb); clear HB; have HB := n0_; clear n0_; (try clear hb); (try clear hb2); (try clear hk); (try clear hi)))
    repeat (go_quiet (first | (go_at_call 47; (with_reducible refine (testamurref08_alike.calls _ _ l0 false _ ?side1 ?side2 A2.out).mono ?_); (case side1 => repeat (first | exact HR0.out | (with_reducible refine Kd.C_alloc ?_ _) | (with_reducible refine Kd.C_drewN ?_ _) | (with_reducible refine Kd.C_drew ?_))); (case side2 => exact HC0.out); rintro e w11 ⟨rfl, hb⟩; have n0_ := Aside0.mk (below_step (by repeat (first | (with_reducible first | exact HB.out | apply below_alloc | apply pw_below_drewN | apply below_drew1) | exact HB.out)) hb); clear HB; have HB := n0_; clear n0_; (try clear hb); (try clear hb2); (try clear hk); (try clear hi))); try go_wp2_with (first | (go_at_call 47; (with_reducible refine (testamurref08_alike.calls _ _ l0 false _ ?side1 ?side2 A2.out).mono ?_); (case side1 => repeat (first | exact HR0.out | (with_reducible refine Kd.C_alloc ?_ _) | (with_reducible refine Kd.C_drewN ?_ _) | (with_reducible refine Kd.C_drew ?_))); (case side2 => exact HC0.out); rintro e w11 ⟨rfl, hb⟩; have n0_ := Aside0.mk (below_step (by repeat (first | (with_reducible first | exact HB.out | apply below_alloc | apply pw_below_drewN | apply below_drew1) | exact HB.out)) hb); clear HB; have HB := n0_; clear n0_; (try clear hb); (try clear hb2); (try clear hk); (try clear hi))))
    go_ret
    exact ⟨by first | rfl | (simp [errW_none, errW_some] <;> rfl) | (simp [*, errW_none, errW_some] <;> rfl), by repeat (first | (with_reducible first | exact HB.out | apply below_alloc | apply pw_below_drewN | apply below_drew1) | exact HB.out)⟩
end Go.Proofs.Ytillfbohengpaaa.PA
end
section
namespace Go.Proofs.Ytillfbohengpaaa.PA
open Go.RowKit Go.Proofs.YtillfbohengpaaaW.PrintWords Go.Proofs.YtillfbohengpaaaW.PrintLast Go.Proofs.YtillfbohengpaaaW.PrintMore
attribute [local go_sem] max2_int min2_int max_two min_two max_three min_three max_four min_four   -- for this text's walks alone
set_option linter.unusedVariables false
set_option linter.unusedSimpArgs false
def testamurref08_points.l0 : Nat → List (S52) → Int → List Int → List Int → Int → Option (List Int × List Int)
  | 0, _, _, _, _, _ => none
  | k + 1, x0, x1, x6, x7, x8 => if x8 < (x0.length : Int) then (if 0 ≤ x8 then (if x6.length < 140737488355328 then (if 0 ≤ x1 then (if x1 < (((rd_T52 x0 x8).f4).length : Int) then (if x7.length < 140737488355328 then (testamurref08_points.l0 k x0 x1 (x6 ++ [((rd_T52 x0 x8).f1) % 256]) (x7 ++ [rd ((rd_T52 x0 x8).f4) x1]) (wrap64 (x8 + 1))) else (none)) else (none)) else (none)) else (none)) else (none)) else (some (x6, x7))
def testamurref08_points.f (k : Nat) (l0 : List (S52)) (a1 : Int) : Option (List Int × List Int) := testamurref08_points.l0 k l0 a1 ([] : List Int) ([] : List Int) 0
theorem testamurref08_points.mono_l : ∀ k, (∀ y0 y1 y2 y3 y4, LeO (testamurref08_points.l0 k y0 y1 y2 y3 y4) (testamurref08_points.l0 (k + 1) y0 y1 y2 y3 y4))
  | 0 => fun _ _ _ _ _ r h => by simp [testamurref08_points.l0] at h
  | k + 1 => by
    have ih0 := testamurref08_points.mono_l k
    · intro y0 y1 y2 y3 y4
      unfold testamurref08_points.l0
      repeat' first
      | (with_reducible exact ih0 _ _ _ _ _)
      | (with_reducible exact LeO.refl _)
      | (with_reducible exact LeO.none _)
      | (with_reducible refine LeO.ite ?_ ?_)
      | (with_reducible refine LeO.bind ?_ (fun _ => ?_))
      | exact ih0 _ _ _ _ _
      | exact LeO.none _
      | refine LeO.ite ?_ ?_
      | refine LeO.bind ?_ (fun _ => ?_)
theorem testamurref08_points.mono : ∀ a0 a1 k, LeO (testamurref08_points.f k a0 a1) (testamurref08_points.f (k + 1) a0 a1) := by
  intro a0 a1 k
  have ih0 := testamurref08_points.mono_l k
  unfold testamurref08_points.f
  repeat' first
      | (with_reducible exact ih0 _ _ _ _ _)
      | (with_reducible exact LeO.refl _)
      | (with_reducible exact LeO.none _)
      | (with_reducible refine LeO.ite ?_ ?_)
      | (with_reducible refine LeO.bind ?_ (fun _ => ?_))
      | exact ih0 _ _ _ _ _
      | exact LeO.none _
      | refine LeO.ite ?_ ?_
      | refine LeO.bind ?_ (fun _ => ?_)
set_option maxHeartbeats 8000000 in
set_option maxRecDepth 100000 in
theorem testamurref08_points.calls (k : Nat) (A0 : Option Addr) (c0 : Nat) (l0 : List (S52)) (a1 : Int) (r1 : List Int) (r2 : List Int) (w : World) (hr0 : Kd.C k52 w A0 l0.length l0) (hc0 : l0.length ≤ c0) (h : testamurref08_points.f k l0 a1 = some (r1, r2)) :
    Calls Try.prog 51 #[.slice A0 l0.length c0, .int .i64 a1] w fun e w' => ∃ v0_ v1_ : Value, e = .returned (.tuple #[v0_, v1_]) ∧ Kd.R (Kd.int .u8) 5 w' w.heap.size (fun k_ => some k_ ≠ (v1_ : Value).ownBlock) v0_ r1 ∧ Kd.R (Kd.int .u8) 5 w' w.heap.size (fun k_ => some k_ ≠ (v0_ : Value).ownBlock) v1_ r2 ∧ Below w.heap.size w w' := by
  have HR0 := Aside0.mk hr0
  have HC0 := Aside0.mk hc0
  clear hr0 hc0
  have HB := Aside0.mk (Below.refl w.heap.size w)
  have H : (testamurref08_points.l0 k l0 a1 ([] : List Int) ([] : List Int) 0) = some (r1, r2) := h
  clear h
  have H' := Aside0.mk H
  clear H
  go_enter Try.func51, Try.ntmps51
  go_wp2
  go_loopg [6, 7, 8] k (fun kq v6 v7 v8 w' => ∃ (x6_1 : List Int) (x7_1 : List Int) (x8_1 : Int), v8 = .int .i64 x8_1 ∧ Aside0 (testamurref08_points.l0 kq l0 a1 x6_1 x7_1 x8_1 = some (r1, r2)) ∧ Aside0 (kq ≤ k) ∧ Aside0 (Kd.R (Kd.int .u8) 5 w' w.heap.size (fun k_ => some k_ ≠ (v7 : Value).ownBlock) v6 x6_1) ∧ Aside0 (Kd.R (Kd.int .u8) 5 w' w.heap.size (fun k_ => some k_ ≠ (v6 : Value).ownBlock) v7 x7_1) ∧ Aside0 (Below w.heap.size w w'))
  case atStart => exact ⟨(([] : List Int)), (([] : List Int)), (0), (by first | rfl | (simp; done) | (simp [*]; done)), H', ⟨Nat.le_refl _⟩, ⟨by first | exact Kd.R_nil _ _ _ _ _ | exact Kd.N_nil _ _ _ _ _ | exact Kd.V_nil _ _ _ _ _ | exact Kd.Q_nil _ _ _ _ _ | exact Kd.S_nil _ _ _ _ _⟩, ⟨by first | exact Kd.R_nil _ _ _ _ _ | exact Kd.N_nil _ _ _ _ _ | exact Kd.V_nil _ _ _ _ _ | exact Kd.Q_nil _ _ _ _ _ | exact Kd.S_nil _ _ _ _ _⟩, ⟨by repeat (first | (with_reducible first | exact HB.out | apply below_alloc | apply pw_below_drewN | apply below_drew1) | exact HB.out)⟩⟩
  case round =>
    clear H'
    try clear p2
    obtain ⟨x6_1, x7_1, x8_1, rfl, HA, HK1, HO_6, HO_7, HB⟩ := hrel
    cases gk with
    | zero => exact absurd HA.out (by simp [testamurref08_points.l0])
    | succ k1 =>
      have H := HA.out
      clear HA
      simp only [testamurref08_points.l0] at H
      by_cases c3 : x8_1 < (l0.length : Int)
      · rw [if_pos c3] at H
        have c3b0 : decide (x8_1 < (l0.length : Int)) = true := decide_eq_true c3
        clear c3
        by_cases c4 : 0 ≤ x8_1
        · rw [if_pos c4] at H
          have c4b0 : decide (0 ≤ x8_1) = true := decide_eq_true c4
          clear c4
          by_cases c5 : x6_1.length < 140737488355328
          · rw [if_pos c5] at H
            have LMc5 := Aside0.mk c5
            clear c5
            obtain ⟨y145, hy145⟩ : ∃ y_ : List Int, y_ = (x6_1 ++ [((rd_T52 l0 x8_1).f1) % 256]) := ⟨_, rfl⟩
            replace H : (if 0 ≤ a1 then (if a1 < (((rd_T52 l0 x8_1).f4).length : Int) then (if x7_1.length < 140737488355328 then (testamurref08_points.l0 k1 l0 a1 y145 (x7_1 ++ [rd ((rd_T52 l0 x8_1).f4) a1]) (wrap64 (x8_1 + 1))) else (none)) else (none)) else (none)) = some (r1, r2) := by first | (rw [hy145]; with_reducible exact H) | (have H2_ := (Option.bind_some _ _).symm.trans H; rw [hy145]; with_reducible exact H2_) | (have H2_ := (Option.bind_some _ _).symm.trans H; with_reducible exact H2_) | with_reducible exact H | (rw [hy145]; exact H) | exact H
            have Ny145 := Aside0.mk hy145
            clear hy145
            by_cases c6 : 0 ≤ a1
            · rw [if_pos c6] at H
              have c6b0 : decide (0 ≤ a1) = true := decide_eq_true c6
              clear c6
              by_cases c7 : a1 < (((rd_T52 l0 x8_1).f4).length : Int)
              · rw [if_pos c7] at H
                have c7b0 : decide (a1 < (((rd_T52 l0 x8_1).f4).length : Int)) = true := decide_eq_true c7
                clear c7
                by_cases c8 : x7_1.length < 140737488355328
                · rw [if_pos c8] at H
                  have LMc8 := Aside0.mk c8
                  clear c8
                  obtain ⟨y150, hy150⟩ : ∃ y_ : List Int, y_ = (x7_1 ++ [rd ((rd_T52 l0 x8_1).f4) a1]) := ⟨_, rfl⟩
                  replace H : (testamurref08_points.l0 k1 l0 a1 y145 y150 (wrap64 (x8_1 + 1))) = some (r1, r2) := by first | (rw [hy150]; with_reducible exact H) | (have H2_ := (Option.bind_some _ _).symm.trans H; rw [hy150]; with_reducible exact H2_) | (have H2_ := (Option.bind_some _ _).symm.trans H; with_reducible exact H2_) | with_reducible exact H | (rw [hy150]; exact H) | exact H
                  have Ny150 := Aside0.mk hy150
                  clear hy150
                  have H' := Aside0.mk H
                  clear H
                  have p144 : 0 ≤ (x8_1 : Int) := of_decide_eq_true (by first | (with_reducible assumption) | assumption)
                  have q144 : x8_1 < (l0.length : Int) := of_decide_eq_true (by first | (with_reducible assumption) | assumption)
                  obtain ⟨ad144, A144_4, c144_4, e144, hx144_0, hx144_1, hx144_2, hx144_3, hx144_4, hl144_4, hi144_4⟩ := at_T52 HR0.out x8_1 p144 q144
                  cases e144
                  replace hx144_0 := (HB.out.cell (World.block_lt_of_cell? w _ hx144_0)).trans hx144_0
                  replace hx144_1 := (HB.out.cell (World.block_lt_of_cell? w _ hx144_1)).trans hx144_1
                  replace hx144_2 := (HB.out.cell (World.block_lt_of_cell? w _ hx144_2)).trans hx144_2
                  replace hx144_3 := (HB.out.cell (World.block_lt_of_cell? w _ hx144_3)).trans hx144_3
                  replace hx144_4 := (HB.out.cell (World.block_lt_of_cell? w _ hx144_4)).trans hx144_4
                  have HR144_4 := Aside0.mk hi144_4
                  have HC144_4 := Aside0.mk hl144_4
                  clear hi144_4 hl144_4
                  replace p144 := eq_true p144
                  replace q144 := eq_true q144
                  go_wp2_with (first | ((with_reducible refine gate_builtin (b := .append) (xs := #[.tmp 15, .tmp 22]) rfl ?_); at_builtin; refine Kd.R_append (Kd.int .u8) (w0 := w) w.heap.size rfl (.tmp 15) (.tmp 22) 30 5 (.int .u8 0) 1 rfl Try.underlying30 info5 rfl (by decide) (by omega) u6 x6_1 (((rd_T52 l0 x8_1).f1) % 256) [.int .u8 (((rd_T52 l0 x8_1).f1) % 256)] (fun k_ => some k_ ≠ (u7 : Value).ownBlock) (fun _ => False) rfl rfl ?aP (fun _ hk => hk.elim) ?aF ?aO ?aB ?aS ?aL ?_; (case aP => exact rfl); (case aB => exact (by repeat (first | (with_reducible first | exact HB.out | apply below_alloc | apply pw_below_drewN | apply below_drew1) | exact HB.out))); (case aF => exact (fun k_ hk => Kd.fresh' (Kd.R_lt (by (with_reducible repeat (first | apply Kd.R_alloc | apply Kd.R_drewN | apply Kd.R_drew)); exact HO_7.out)) k_ hk)); (case aO => exact (by (with_reducible repeat (first | apply Kd.R_alloc | apply Kd.R_drewN | apply Kd.R_drew)); exact HO_6.out)); (case aS => exact (below_size (by repeat (first | (with_reducible first | exact HB.out | apply below_alloc | apply pw_below_drewN | apply below_drew1) | exact HB.out)))); (case aL => have := LMc5.out; omega); intro v146 w9 ho hb hg hat; rw [← Ny145.out] at ho; have n0_ := Aside0.mk (Kd.R_after (ok := (fun _ => True)) (by (with_reducible repeat (first | apply Kd.R_alloc | apply Kd.R_drewN | apply Kd.R_drew)); exact Kd.R_mono HO_7.out (fun _ hk => ⟨trivial, hk⟩)) hg hat); have n1_ := Aside0.mk (hb); have n2_ := Aside0.mk (ho); clear HO_7; clear HB; clear HO_6; have HO_7 := n0_; have HB := n1_; have HO147 := n2_; clear n0_ n1_ n2_; clear ho hb hg hat; have p148 : 0 ≤ (x8_1 : Int) := of_decide_eq_true (by first | (with_reducible assumption) | assumption); have q148 : x8_1 < (l0.length : Int) := of_decide_eq_true (by first | (with_reducible assumption) | assumption); obtain ⟨ad148, A148_4, c148_4, e148, hx148_0, hx148_1, hx148_2, hx148_3, hx148_4, hl148_4, hi148_4⟩ := at_T52 HR0.out x8_1 p148 q148; obtain rfl : ad144 = ad148 := (by injection e148); replace hx148_0 := (HB.out.cell (World.block_lt_of_cell? w _ hx148_0)).trans hx148_0; replace hx148_1 := (HB.out.cell (World.block_lt_of_cell? w _ hx148_1)).trans hx148_1; replace hx148_2 := (HB.out.cell (World.block_lt_of_cell? w _ hx148_2)).trans hx148_2; replace hx148_3 := (HB.out.cell (World.block_lt_of_cell? w _ hx148_3)).trans hx148_3; replace hx148_4 := (HB.out.cell (World.block_lt_of_cell? w _ hx148_4)).trans hx148_4; have HR148_4 := Aside0.mk hi148_4; have HC148_4 := Aside0.mk hl148_4; clear hi148_4 hl148_4; replace p148 := eq_true p148; replace q148 := eq_true q148; have p149 : 0 ≤ (a1 : Int) := of_decide_eq_true (by first | (with_reducible assumption) | assumption); have q149 : a1 < (((rd_T52 l0 x8_1).f4).length : Int) := of_decide_eq_true (by first | (with_reducible assumption) | assumption); obtain ⟨ad149, e149, hx149_0⟩ := Kd.at_int HR148_4.out a1 p149 q149; cases e149; replace hx149_0 := (HB.out.cell (World.block_lt_of_cell? w _ hx149_0)).trans hx149_0; replace p149 := eq_true p149; replace q149 := eq_true q149) | ((with_reducible refine gate_builtin (b := .append) (xs := #[.tmp 24, .tmp 33]) rfl ?_); at_builtin; refine Kd.R_append (Kd.int .u8) (w0 := w) w.heap.size rfl (.tmp 24) (.tmp 33) 30 5 (.int .u8 0) 1 rfl Try.underlying30 info5 rfl (by decide) (by omega) u7 x7_1 (rd ((rd_T52 l0 x8_1).f4) a1) [.int .u8 (rd ((rd_T52 l0 x8_1).f4) a1)] (fun k_ => some k_ ≠ (v146 : Value).ownBlock) (fun _ => False) rfl rfl ?aP (fun _ hk => hk.elim) ?aF ?aO ?aB ?aS ?aL ?_; (case aP => exact rfl); (case aB => exact (by repeat (first | (with_reducible first | exact HB.out | apply below_alloc | apply pw_below_drewN | apply below_drew1) | exact HB.out))); (case aF => exact (fun k_ hk => Kd.fresh' (Kd.R_lt (by (with_reducible repeat (first | apply Kd.R_alloc | apply Kd.R_drewN | apply Kd.R_drew)); exact HO147.out)) k_ hk)); (case aO => exact (by (with_reducible repeat (first | apply Kd.R_alloc | apply Kd.R_drewN | apply Kd.R_drew)); exact Kd.R_mono HO_7.out (fun _ hk => hk.2))); (case aS => exact (below_size (by repeat (first | (with_reducible first | exact HB.out | apply below_alloc | apply pw_below_drewN | apply below_drew1) | exact HB.out)))); (case aL => have := LMc8.out; omega); intro v151 w10 ho hb hg hat; rw [← Ny150.out] at ho; have n0_ := Aside0.mk (Kd.R_after (ok := (fun _ => True)) (by (with_reducible repeat (first | apply Kd.R_alloc | apply Kd.R_drewN | apply Kd.R_drew)); exact Kd.R_mono HO147.out (fun _ hk => ⟨trivial, hk⟩)) hg hat); have n1_ := Aside0.mk (hb); have n2_ := Aside0.mk (ho); clear HO147; clear HB; clear HO_7; have HO147 := n0_; have HB := n1_; have HO152 := n2_; clear n0_ n1_ n2_; clear ho hb hg hat))
                  go_roundg k1
                  case measure => have := HK1.out; omega
                  case rel => exact ⟨(y145), (y150), (wrap64 (x8_1 + 1)), (by first | rfl | (simp; done) | (simp [*]; done)), H', ⟨by have := HK1.out; omega⟩, ⟨by (with_reducible repeat (first | apply Kd.R_alloc | apply Kd.R_drewN | apply Kd.R_drew)); exact Kd.R_mono HO147.out (fun _ hk => hk.2)⟩, ⟨by (with_reducible repeat (first | apply Kd.R_alloc | apply Kd.R_drewN | apply Kd.R_drew)); exact HO152.out⟩, ⟨by repeat (first | (with_reducible first | exact HB.out | apply below_alloc | apply pw_below_drewN | apply below_drew1) | exact HB.out)⟩⟩
                · rw [if_neg c8] at H
                  exact absurd H (by simp)
              · rw [if_neg c7] at H
                exact absurd H (by simp)
            · rw [if_neg c6] at H
              exact absurd H (by simp)
          · rw [if_neg c5] at H
            exact absurd H (by simp)
        · rw [if_neg c4] at H
          exact absurd H (by simp)
      · rw [if_neg c3] at H
        have c3b0 : decide (x8_1 < (l0.length : Int)) = false := decide_eq_false c3
        clear c3
        simp only [Option.some.injEq, Prod.mk.injEq] at H
        obtain ⟨rfl, rfl⟩ := H
        go_wp2
        go_ret2
        exact ⟨_, _, by first | rfl | (simp [errW_none, errW_some] <;> rfl) | (simp [*, errW_none, errW_some] <;> rfl), by (with_reducible repeat (first | apply Kd.R_alloc | apply Kd.R_drewN | apply Kd.R_drew)); exact HO_6.out, by (with_reducible repeat (first | apply Kd.R_alloc | apply Kd.R_drewN | apply Kd.R_drew)); exact HO_7.out, by repeat (first | (with_reducible first | exact HB.out | apply below_alloc | apply pw_below_drewN | apply below_drew1) | exact HB.out)⟩
end Go.Proofs.Ytillfbohengpaaa.PA
end
section
namespace Go.Proofs.Ytillfbohengpaaa.PA
open Go.RowKit Go.Proofs.YtillfbohengpaaaW.PrintWords Go.Proofs.YtillfbohengpaaaW.PrintLast Go.Proofs.YtillfbohengpaaaW.PrintMore
attribute [local go_sem] max2_int min2_int max_two min_two max_three min_three max_four min_four   -- for this text's walks alone
set_option linter.unusedVariables false
set_option linter.unusedSimpArgs false
mutual
def testamurref07_Points.l0 : Nat → List Int → Int → Option (Bool)
  | 0, _, _ => none
  | k + 1, x0, x5 => if x5 < (x0.length : Int) then (testamurref07_Points.l1 k x0 x5 0) else (some true)
def testamurref07_Points.l1 : Nat → List Int → Int → Int → Option (Bool)
  | 0, _, _, _ => none
  | k + 1, x0, x5, x6 => if x6 < x5 then (if 0 ≤ x6 then (if x6 < (x0.length : Int) then (if 0 ≤ x5 then (if x5 < (x0.length : Int) then (if (rd x0 x6) = (rd x0 x5) then (some false) else (testamurref07_Points.l1 k x0 x5 (wrap64 (x6 + 1)))) else (none)) else (none)) else (none)) else (none)) else (testamurref07_Points.l0 k x0 (wrap64 (x5 + 1)))
end
def testamurref07_Points.f (k : Nat) (l0 : List Int) (l1 : List Int) : Option (Bool) := if (l0.length : Int) = (l1.length : Int) then (testamurref07_Points.l0 k l0 0) else (some false)
theorem testamurref07_Points.mono_l : ∀ k, (∀ y0 y1, LeO (testamurref07_Points.l0 k y0 y1) (testamurref07_Points.l0 (k + 1) y0 y1)) ∧ (∀ y0 y1 y2, LeO (testamurref07_Points.l1 k y0 y1 y2) (testamurref07_Points.l1 (k + 1) y0 y1 y2))
  | 0 => ⟨fun _ _ r h => by simp [testamurref07_Points.l0] at h, fun _ _ _ r h => by simp [testamurref07_Points.l1] at h⟩
  | k + 1 => by
    obtain ⟨ih0, ih1⟩ := testamurref07_Points.mono_l k
    refine ⟨?_, ?_⟩
    · intro y0 y1
      unfold testamurref07_Points.l0
      repeat' first
      | (with_reducible exact ih0 _ _)
      | (with_reducible exact ih1 _ _ _)
      | (with_reducible exact LeO.refl _)
      | (with_reducible exact LeO.none _)
      | (with_reducible refine LeO.ite ?_ ?_)
      | (with_reducible refine LeO.bind ?_ (fun _ => ?_))
      | exact ih0 _ _
      | exact ih1 _ _ _
      | exact LeO.none _
      | refine LeO.ite ?_ ?_
      | refine LeO.bind ?_ (fun _ => ?_)
    · intro y0 y1 y2
      unfold testamurref07_Points.l1
      repeat' first
      | (with_reducible exact ih0 _ _)
      | (with_reducible exact ih1 _ _ _)
      | (with_reducible exact LeO.refl _)
      | (with_reducible exact LeO.none _)
      | (with_reducible refine LeO.ite ?_ ?_)
      | (with_reducible refine LeO.bind ?_ (fun _ => ?_))
      | exact ih0 _ _
      | exact ih1 _ _ _
      | exact LeO.none _
      | refine LeO.ite ?_ ?_
      | refine LeO.bind ?_ (fun _ => ?_)
theorem testamurref07_Points.mono : ∀ a0 a1 k, LeO (testamurref07_Points.f k a0 a1) (testamurref07_Points.f (k + 1) a0 a1) := by
  intro a0 a1 k
  obtain ⟨ih0, ih1⟩ := testamurref07_Points.mono_l k
  unfold testamurref07_Points.f
  repeat' first
      | (with_reducible exact ih0 _ _)
      | (with_reducible exact ih1 _ _ _)
      | (with_reducible exact LeO.refl _)
      | (with_reducible exact LeO.none _)
      | (with_reducible refine LeO.ite ?_ ?_)
      | (with_reducible refine LeO.bind ?_ (fun _ => ?_))
      | exact ih0 _ _
      | exact ih1 _ _ _
      | exact LeO.none _
      | refine LeO.ite ?_ ?_
      | refine LeO.bind ?_ (fun _ => ?_)
set_option maxHeartbeats 8000000 in
set_option maxRecDepth 100000 in
theorem testamurref07_Points.calls (k : Nat) (A0 : Option Addr) (c0 : Nat) (l0 : List Int) (A1 : Option Addr) (c1 : Nat) (l1 : List Int) (r : Bool) (w : World) (hr0 : Kd.C (Kd.int .u8) w A0 l0.length l0) (hc0 : l0.length ≤ c0) (hr1 : Kd.C (Kd.int .u8) w A1 l1.length l1) (hc1 : l1.length ≤ c1) (h : testamurref07_Points.f k l0 l1 = some r) :
    Calls Try.prog 57 #[.slice A0 l0.length c0, .slice A1 l1.length c1] w fun e w' => e = .returned (.bool r) ∧ Drawn0 w w' := by
  have HR0 := Aside0.mk hr0
  have HC0 := Aside0.mk hc0
  clear hr0 hc0
  have HR1 := Aside0.mk hr1
  have HC1 := Aside0.mk hc1
  clear hr1 hc1
  have H : (if (l0.length : Int) = (l1.length : Int) then (testamurref07_Points.l0 k l0 0) else (some false)) = some r := h
  clear h
  by_cases c3 : (l0.length : Int) = (l1.length : Int)
  · rw [if_pos c3] at H
    have c3b0 : ((l0.length : Int) == (l1.length : Int)) = true := beq_iff_eq.mpr c3
    have c3b1 : ((l0.length : Int) != (l1.length : Int)) = false := bne_eq_false_iff_eq.mpr c3
    have c3b2 : (l0.length == l1.length) = true := by first | simpa using c3 | (simp at c3 ⊢; omega)
    clear c3
    have H' := Aside0.mk H
    clear H
    go_enter Try.func57, Try.ntmps57
    go_wp2
    repeat (go_quiet (fail); try go_wp2)
    go_loopg [5] k (fun kq v5 w' => ∃ (x5_1 : Int), v5 = .int .i64 x5_1 ∧ Aside0 (testamurref07_Points.l0 kq l0 x5_1 = some r) ∧ Aside0 (kq ≤ k) ∧ Drawn0 w w')
    case atStart => exact ⟨(0), (by first | rfl | (simp; done) | (simp [*]; done)), H', ⟨Nat.le_refl _⟩, by repeat (first | exact Drawn0.refl _ | apply Drawn0.step)⟩
    case round =>
      clear H'
      try clear c1
      try clear p2
      try clear c3
      try clear c3b0
      try clear c3b1
      try clear c3b2
      obtain ⟨x5_1, rfl, HA, HK1, ⟨m1, rfl⟩⟩ := hrel
      cases gk with
      | zero => exact absurd HA.out (by simp [testamurref07_Points.l0])
      | succ k1 =>
        have H := HA.out
        clear HA
        simp only [testamurref07_Points.l0] at H
        by_cases c4 : x5_1 < (l0.length : Int)
        · rw [if_pos c4] at H
          have c4b0 : decide (x5_1 < (l0.length : Int)) = true := decide_eq_true c4
          clear c4
          have H' := Aside0.mk H
          clear H
          go_wp2
          repeat (go_quiet (fail); try go_wp2)
          go_loopg [6] k1 (fun kq v6 w' => ∃ (x6_2 : Int), v6 = .int .i64 x6_2 ∧ Aside0 (testamurref07_Points.l1 kq l0 x5_1 x6_2 = some r) ∧ Aside0 (kq ≤ k1) ∧ Drawn0 w w')
          case atStart => exact ⟨(0), (by first | rfl | (simp; done) | (simp [*]; done)), H', ⟨Nat.le_refl _⟩, by repeat (first | exact Drawn0.refl _ | apply Drawn0.step)⟩
          case round =>
            clear H'
            try clear c1
            try clear p2
            try clear c3
            try clear c3b0
            try clear c3b1
            try clear c3b2
            try clear c4
            try clear c4b0
            try clear p2
            obtain ⟨x6_2, rfl, HA, HK2, ⟨m2, rfl⟩⟩ := hrel
            cases gk with
            | zero => exact absurd HA.out (by simp [testamurref07_Points.l1])
            | succ k2 =>
              have H := HA.out
              clear HA
              simp only [testamurref07_Points.l1] at H
              by_cases c5 : x6_2 < x5_1
              · rw [if_pos c5] at H
                have c5b0 : decide (x6_2 < x5_1) = true := decide_eq_true c5
                clear c5
                by_cases c6 : 0 ≤ x6_2
                · rw [if_pos c6] at H
                  have c6b0 : decide (0 ≤ x6_2) = true := decide_eq_true c6
                  clear c6
                  by_cases c7 : x6_2 < (l0.length : Int)
                  · rw [if_pos c7] at H
                    have c7b0 : decide (x6_2 < (l0.length : Int)) = true := decide_eq_true c7
                    clear c7
                    by_cases c8 : 0 ≤ x5_1
                    · rw [if_pos c8] at H
                      have c8b0 : decide (0 ≤ x5_1) = true := decide_eq_true c8
                      clear c8
                      by_cases c9 : x5_1 < (l0.length : Int)
                      · rw [if_pos c9] at H
                        have c9b0 : decide (x5_1 < (l0.length : Int)) = true := decide_eq_true c9
                        clear c9
                        by_cases c10 : (rd l0 x6_2) = (rd l0 x5_1)
                        · rw [if_pos c10] at H
                          have c10b0 : ((rd l0 x6_2) == (rd l0 x5_1)) = true := beq_iff_eq.mpr c10
                          have c10b1 : ((rd l0 x6_2) != (rd l0 x5_1)) = false := bne_eq_false_iff_eq.mpr c10
                          clear c10
                          obtain rfl := Option.some.inj H
                          have p153 : 0 ≤ (x6_2 : Int) := of_decide_eq_true (by first | (with_reducible assumption) | assumption)
                          have q153 : x6_2 < (l0.length : Int) := of_decide_eq_true (by first | (with_reducible assumption) | assumption)
                          obtain ⟨ad153, e153, hx153_0⟩ := Kd.at_int HR0.out x6_2 p153 q153
                          cases e153
                          replace p153 := eq_true p153
                          replace q153 := eq_true q153
                          have p154 : 0 ≤ (x5_1 : Int) := of_decide_eq_true (by first | (with_reducible assumption) | assumption)
                          have q154 : x5_1 < (l0.length : Int) := of_decide_eq_true (by first | (with_reducible assumption) | assumption)
                          obtain ⟨ad154, e154, hx154_0⟩ := Kd.at_int HR0.out x5_1 p154 q154
                          obtain rfl : ad153 = ad154 := (by injection e154)
                          replace p154 := eq_true p154
                          replace q154 := eq_true q154
                          go_wp2
                          repeat (go_quiet (fail); try go_wp2)
                          go_ret
                          exact ⟨by first | rfl | (simp; done) | (simp [*]; done), by repeat (first | exact Drawn0.refl _ | apply Drawn0.step)⟩
                        · rw [if_neg c10] at H
                          have c10b0 : ((rd l0 x6_2) == (rd l0 x5_1)) = false := beq_eq_false_iff_ne.mpr c10
                          have c10b1 : ((rd l0 x6_2) != (rd l0 x5_1)) = true := bne_iff_ne.mpr c10
                          have H' := Aside0.mk H
                          clear H
                          have p153 : 0 ≤ (x6_2 : Int) := of_decide_eq_true (by first | (with_reducible assumption) | assumption)
                          have q153 : x6_2 < (l0.length : Int) := of_decide_eq_true (by first | (with_reducible assumption) | assumption)
                          obtain ⟨ad153, e153, hx153_0⟩ := Kd.at_int HR0.out x6_2 p153 q153
                          cases e153
                          replace p153 := eq_true p153
                          replace q153 := eq_true q153
                          have p154 : 0 ≤ (x5_1 : Int) := of_decide_eq_true (by first | (with_reducible assumption) | assumption)
                          have q154 : x5_1 < (l0.length : Int) := of_decide_eq_true (by first | (with_reducible assumption) | assumption)
                          obtain ⟨ad154, e154, hx154_0⟩ := Kd.at_int HR0.out x5_1 p154 q154
                          obtain rfl : ad153 = ad154 := (by injection e154)
                          replace p154 := eq_true p154
                          replace q154 := eq_true q154
                          go_wp2
                          repeat (go_quiet (fail); try go_wp2)
                          go_roundg k2
                          case measure => have := HK1.out; have := HK2.out; omega
                          case rel => exact ⟨(wrap64 (x6_2 + 1)), (by first | rfl | (simp; done) | (simp [*]; done)), H', ⟨by have := HK1.out; have := HK2.out; omega⟩, by repeat (first | exact Drawn0.refl _ | apply Drawn0.step)⟩
                      · rw [if_neg c9] at H
                        exact absurd H (by simp)
                    · rw [if_neg c8] at H
                      exact absurd H (by simp)
                  · rw [if_neg c7] at H
                    exact absurd H (by simp)
                · rw [if_neg c6] at H
                  exact absurd H (by simp)
              · rw [if_neg c5] at H
                have c5b0 : decide (x6_2 < x5_1) = false := decide_eq_false c5
                clear c5
                have H' := Aside0.mk H
                clear H
                go_wp2
                repeat (go_quiet (fail); try go_wp2)
                go_roundg k2
                case measure => have := HK1.out; have := HK2.out; omega
                case rel => exact ⟨(wrap64 (x5_1 + 1)), (by first | rfl | (simp; done) | (simp [*]; done)), H', ⟨by have := HK1.out; have := HK2.out; omega⟩, by repeat (first | exact Drawn0.refl _ | apply Drawn0.step)⟩
        · rw [if_neg c4] at H
          have c4b0 : decide (x5_1 < (l0.length : Int)) = false := decide_eq_false c4
          clear c4
          obtain rfl := Option.some.inj H
          go_wp2
          repeat (go_quiet (fail); try go_wp2)
          go_ret
          exact ⟨by first | rfl | (simp; done) | (simp [*]; done), by repeat (first | exact Drawn0.refl _ | apply Drawn0.step)⟩
  · rw [if_neg c3] at H
    have c3b0 : ((l0.length : Int) == (l1.length : Int)) = false := beq_eq_false_iff_ne.mpr c3
    have c3b1 : ((l0.length : Int) != (l1.length : Int)) = true := bne_iff_ne.mpr c3
    have c3b2 : (l0.length == l1.length) = false := by first | simpa using c3 | (simp at c3 ⊢; omega)
    obtain rfl := Option.some.inj H
    go_enter Try.func57, Try.ntmps57
    go_wp2
    repeat (go_quiet (fail); try go_wp2)
    go_ret
    exact ⟨by first | rfl | (simp; done) | (simp [*]; done), by repeat (first | exact Drawn0.refl _ | apply Drawn0.step)⟩
end Go.Proofs.Ytillfbohengpaaa.PA
end
section
namespace Go.Proofs.Ytillfbohengpaaa.PA
open Go.RowKit Go.Proofs.YtillfbohengpaaaW.PrintWords Go.Proofs.YtillfbohengpaaaW.PrintLast Go.Proofs.YtillfbohengpaaaW.PrintMore
attribute [local go_sem] max2_int min2_int max_two min_two max_three min_three max_four min_four   -- for this text's walks alone
set_option linter.unusedVariables false
set_option linter.unusedSimpArgs false
def testamurref07_Inv.f (a0 : Int) : Option (Int × Int) := if okB a0 = true then some (tI (invR (gI a0)).1, (invR (gI a0)).2) else none
theorem testamurref07_Inv.calls (a0 : Int) (r1 r2 : Int) (w : World) (h : testamurref07_Inv.f a0 = some (r1, r2)) :
    Calls Try.prog 17 #[.int .u8 a0] w fun e w' => e = .returned (.tuple #[.int .u8 r1, .int .i64 r2]) ∧ Below w.heap.size w w' := by
  unfold testamurref07_Inv.f at h
  split at h
  case isFalse => cases h
  rename_i h1
  simp only [okB, Bool.and_eq_true, decide_eq_true_eq] at h1
  injection h with h
  injection h with h2 h3
  subst h2 h3
  have e1 := tI_gI a0 h1.1 h1.2
  generalize gI a0 = x at *
  subst e1
  exact rinv_u x w
end Go.Proofs.Ytillfbohengpaaa.PA
end
section
namespace Go.Proofs.Ytillfbohengpaaa.PA
open Go.RowKit Go.Proofs.YtillfbohengpaaaW.PrintWords Go.Proofs.YtillfbohengpaaaW.PrintLast Go.Proofs.YtillfbohengpaaaW.PrintMore
attribute [local go_sem] max2_int min2_int max_two min_two max_three min_three max_four min_four   -- for this text's walks alone
set_option linter.unusedVariables false
set_option linter.unusedSimpArgs false
def testamurref07_over.f (a0 : Int) (a1 : Int) : Option (Int) := (testamurref07_Inv.f a1).bind fun bt155 => ((testamurref07_Mul.f a0 bt155.1).bind fun t157 => (some t157))
set_option maxHeartbeats 8000000 in
set_option maxRecDepth 100000 in
theorem testamurref07_over.calls (a0 : Int) (a1 : Int) (r : Int) (w : World) (h : testamurref07_over.f a0 a1 = some r) :
    Calls Try.prog 58 #[.int .u8 a0, .int .u8 a1] w fun e w' => e = .returned (.int .u8 r) ∧ Below w.heap.size w w' := by
  have HB := Aside0.mk (Below.refl w.heap.size w)
  have H : ((testamurref07_Inv.f a1).bind fun bt155 => ((testamurref07_Mul.f a0 bt155.1).bind fun t157 => (some t157))) = some r := h
  clear h
  replace H := Option.bind_eq_some_iff.mp H
  obtain ⟨⟨t155, t156⟩, A30, H⟩ := H
  replace H : ((testamurref07_Mul.f a0 t155).bind fun t157 => (some t157)) = some r := H
  have A3 := Aside0.mk A30
  clear A30
  replace H := Option.bind_eq_some_iff.mp H
  obtain ⟨t157, A40, H⟩ := H
  replace H : (some t157) = some r := H
  have A4 := Aside0.mk A40
  clear A40
  obtain rfl := Option.some.inj H
  go_enter Try.func58, Try.ntmps58
  go_wp2_with (first | ((with_reducible refine gate_callee (f := 17) rfl ?_); refine goesL_ (some 9) rfl rfl Try.func17 (by kernel_rfl) rfl #[.int .u8 a1] rfl (by (try simp only [List.map_toArray, List.map_cons, List.map_nil]); first | done | rfl | (simp only [List.length_drop, List.length_take]; rfl)) ?_; (with_reducible refine (testamurref07_Inv.calls a1 t155 t156 _ A3.out).mono ?_); rintro e w5 ⟨rfl, hb⟩; refine ⟨_, rfl, ?_⟩; have n0_ := Aside0.mk (below_step (by repeat (first | (with_reducible first | exact HB.out | apply below_alloc | apply pw_below_drewN | apply below_drew1) | exact HB.out)) hb); clear HB; have HB := n0_; clear n0_; (try clear hb); (try clear hb2); (try clear hk); (try clear hi)) | ((with_reducible refine gate_callee (f := 19) rfl ?_); refine goesL_ (some 14) rfl rfl Try.func19 (by kernel_rfl) rfl #[.int .u8 a0, .int .u8 t155] rfl (by (try simp only [List.map_toArray, List.map_cons, List.map_nil]); first | done | rfl | (simp only [List.length_drop, List.length_take]; rfl)) ?_; (with_reducible refine (testamurref07_Mul.calls a0 t155 t157 _ A4.out).mono ?_); rintro e w6 ⟨rfl, hb⟩; refine ⟨_, rfl, ?_⟩; have n0_ := Aside0.mk (below_step (by repeat (first | (with_reducible first | exact HB.out | apply below_alloc | apply pw_below_drewN | apply below_drew1) | exact HB.out)) hb); clear HB; have HB := n0_; clear n0_; (try clear hb); (try clear hb2); (try clear hk); (try clear hi)))
  go_ret
  exact ⟨by first | rfl | (simp [errW_none, errW_some] <;> rfl) | (simp [*, errW_none, errW_some] <;> rfl), by repeat (first | (with_reducible first | exact HB.out | apply below_alloc | apply pw_below_drewN | apply below_drew1) | exact HB.out)⟩
end Go.Proofs.Ytillfbohengpaaa.PA
end
section
namespace Go.Proofs.Ytillfbohengpaaa.PA
open Go.RowKit Go.Proofs.YtillfbohengpaaaW.PrintWords Go.Proofs.YtillfbohengpaaaW.PrintLast Go.Proofs.YtillfbohengpaaaW.PrintMore
attribute [local go_sem] max2_int min2_int max_two min_two max_three min_three max_four min_four   -- for this text's walks alone
set_option linter.unusedVariables false
set_option linter.unusedSimpArgs false
mutual
def testamurref07_Through.l0 : Nat → List Int → List Int → Int → Int → Int → Option (Int × Int)
  | 0, _, _, _, _, _ => none
  | k + 1, x0, x1, x2, x8, x9 => if x9 < (x0.length : Int) then (if 0 ≤ x9 then (if x9 < (x1.length : Int) then (testamurref07_Through.l1 k x0 x1 x2 x8 x9 (rd x1 x9) 0) else (none)) else (none)) else (some (x8, 0))
def testamurref07_Through.l1 : Nat → List Int → List Int → Int → Int → Int → Int → Int → Option (Int × Int)
  | 0, _, _, _, _, _, _, _ => none
  | k + 1, x0, x1, x2, x8, x9, x10, x11 => if x11 < (x0.length : Int) then (if x11 = x9 then (testamurref07_Through.l1 k x0 x1 x2 x8 x9 x10 (wrap64 (x11 + 1))) else (if 0 ≤ x11 then (if 0 ≤ x9 then (if x9 < (x0.length : Int) then ((testamurref07_over.f (Go.bits .xor .u8 x2 (rd x0 x11)) (Go.bits .xor .u8 (rd x0 x9) (rd x0 x11))).bind fun t163 => ((testamurref07_Mul.f x10 t163).bind fun t164 => (testamurref07_Through.l1 k x0 x1 x2 x8 x9 t164 (wrap64 (x11 + 1))))) else (none)) else (none)) else (none))) else (testamurref07_Through.l0 k x0 x1 x2 (Go.bits .xor .u8 x8 x10) (wrap64 (x9 + 1)))
end
def testamurref07_Through.f (k : Nat) (l0 : List Int) (l1 : List Int) (a2 : Int) : Option (Int × Int) := (testamurref07_Points.f k l0 l1).bind fun t158 => (if t158 = true then (testamurref07_Through.l0 k l0 l1 a2 0 0) else (some (0, 1)))
theorem testamurref07_Through.mono_l : ∀ k, (∀ y0 y1 y2 y3 y4, LeO (testamurref07_Through.l0 k y0 y1 y2 y3 y4) (testamurref07_Through.l0 (k + 1) y0 y1 y2 y3 y4)) ∧ (∀ y0 y1 y2 y3 y4 y5 y6, LeO (testamurref07_Through.l1 k y0 y1 y2 y3 y4 y5 y6) (testamurref07_Through.l1 (k + 1) y0 y1 y2 y3 y4 y5 y6))
  | 0 => ⟨fun _ _ _ _ _ r h => by simp [testamurref07_Through.l0] at h, fun _ _ _ _ _ _ _ r h => by simp [testamurref07_Through.l1] at h⟩
  | k + 1 => by
    obtain ⟨ih0, ih1⟩ := testamurref07_Through.mono_l k
    refine ⟨?_, ?_⟩
    · intro y0 y1 y2 y3 y4
      unfold testamurref07_Through.l0
      repeat' first
      | (with_reducible exact ih0 _ _ _ _ _)
      | (with_reducible exact ih1 _ _ _ _ _ _ _)
      | (with_reducible exact testamurref07_Points.mono _ _ _)
      | (with_reducible exact LeO.refl _)
      | (with_reducible exact LeO.none _)
      | (with_reducible refine LeO.ite ?_ ?_)
      | (with_reducible refine LeO.bind ?_ (fun _ => ?_))
      | exact ih0 _ _ _ _ _
      | exact ih1 _ _ _ _ _ _ _
      | exact testamurref07_Points.mono _ _ _
      | exact LeO.none _
      | refine LeO.ite ?_ ?_
      | refine LeO.bind ?_ (fun _ => ?_)
    · intro y0 y1 y2 y3 y4 y5 y6
      unfold testamurref07_Through.l1
      repeat' first
      | (with_reducible exact ih0 _ _ _ _ _)
      | (with_reducible exact ih1 _ _ _ _ _ _ _)
      | (with_reducible exact testamurref07_Points.mono _ _ _)
      | (with_reducible exact LeO.refl _)
      | (with_reducible exact LeO.none _)
      | (with_reducible refine LeO.ite ?_ ?_)
      | (with_reducible refine LeO.bind ?_ (fun _ => ?_))
      | exact ih0 _ _ _ _ _
      | exact ih1 _ _ _ _ _ _ _
      | exact testamurref07_Points.mono _ _ _
      | exact LeO.none _
      | refine LeO.ite ?_ ?_
      | refine LeO.bind ?_ (fun _ => ?_)
theorem testamurref07_Through.mono : ∀ a0 a1 a2 k, LeO (testamurref07_Through.f k a0 a1 a2) (testamurref07_Through.f (k + 1) a0 a1 a2) := by
  intro a0 a1 a2 k
  obtain ⟨ih0, ih1⟩ := testamurref07_Through.mono_l k
  unfold testamurref07_Through.f
  repeat' first
      | (with_reducible exact ih0 _ _ _ _ _)
      | (with_reducible exact ih1 _ _ _ _ _ _ _)
      | (with_reducible exact testamurref07_Points.mono _ _ _)
      | (with_reducible exact LeO.refl _)
      | (with_reducible exact LeO.none _)
      | (with_reducible refine LeO.ite ?_ ?_)
      | (with_reducible refine LeO.bind ?_ (fun _ => ?_))
      | exact ih0 _ _ _ _ _
      | exact ih1 _ _ _ _ _ _ _
      | exact testamurref07_Points.mono _ _ _
      | exact LeO.none _
      | refine LeO.ite ?_ ?_
      | refine LeO.bind ?_ (fun _ => ?_)
def testamurref07_Through.T12 : Bool × List (List Nat × List Nat) := (true, [([], []), ([], []), ([], []), ([], []), ([2, 3], [2, 3]), ([4], [4]), ([1, 5], [1, 5]), ([], []), ([], []), ([7, 8], [7, 8]), ([9], [9]), ([], []), ([], []), ([11, 12], [11, 12]), ([13], [13]), ([10, 14], [10, 14]), ([6, 15], [6, 15]), ([0, 16, 16], [0, 16]), ([17, 17, 0, 1, 2, 3, 4, 5, 6, 7, 8, 9, 10, 11, 12, 13, 14, 15, 16, 17], [0, 17])])
def testamurref07_Through.B12 : List Nat := [0, 0, 0, 0, 12, 28, 62, 0, 0, 384, 896, 0, 0, 6144, 14336, 32640, 65534, 131071, 262143]
theorem testamurref07_Through.tab12 : rtab .any (opsOf Try.f52 12) = testamurref07_Through.T12 := by kernel_rfl
theorem testamurref07_Through.bits12 : waitsOk testamurref07_Through.T12.2 testamurref07_Through.B12 = true := by kernel_rfl
set_option maxHeartbeats 8000000 in
set_option maxRecDepth 100000 in
theorem testamurref07_Through.calls (k : Nat) (A0 : Option Addr) (c0 : Nat) (l0 : List Int) (A1 : Option Addr) (c1 : Nat) (l1 : List Int) (a2 : Int) (r1 : Int) (r2 : Int) (w : World) (hr0 : Kd.C (Kd.int .u8) w A0 l0.length l0) (hc0 : l0.length ≤ c0) (hr1 : Kd.C (Kd.int .u8) w A1 l1.length l1) (hc1 : l1.length ≤ c1) (h : testamurref07_Through.f k l0 l1 a2 = some (r1, r2)) :
    Calls Try.prog 52 #[.slice A0 l0.length c0, .slice A1 l1.length c1, .int .u8 a2] w fun e w' => e = .returned (.tuple #[.int .u8 r1, .int .i64 r2]) ∧ Below w.heap.size w w' := by
  have HR0 := Aside0.mk hr0
  have HC0 := Aside0.mk hc0
  clear hr0 hc0
  have HR1 := Aside0.mk hr1
  have HC1 := Aside0.mk hc1
  clear hr1 hc1
  have HB := Aside0.mk (Below.refl w.heap.size w)
  have H : ((testamurref07_Points.f k l0 l1).bind fun t158 => (if t158 = true then (testamurref07_Through.l0 k l0 l1 a2 0 0) else (some (0, 1)))) = some (r1, r2) := h
  clear h
  replace H := Option.bind_eq_some_iff.mp H
  obtain ⟨t158, A40, H⟩ := H
  replace H : (if t158 = true then (testamurref07_Through.l0 k l0 l1 a2 0 0) else (some (0, 1))) = some (r1, r2) := H
  have A4 := Aside0.mk A40
  clear A40
  by_cases c5 : t158 = true
  · subst c5
    have H1 : (testamurref07_Through.l0 k l0 l1 a2 0 0) = some (r1, r2) := by rw [if_pos rfl] at H; exact H
    clear H
    have H := H1
    clear H1
    have H' := Aside0.mk H
    clear H
    go_enter Try.func52, Try.ntmps52
    go_wp2_with (first | ((with_reducible refine gate_callee (f := 57) rfl ?_); refine goesL_ (some 14) rfl rfl Try.func57 (by kernel_rfl) rfl #[.slice A0 l0.length c0, .slice A1 l1.length c1] rfl (by (try simp only [List.map_toArray, List.map_cons, List.map_nil]); first | done | rfl | (simp only [List.length_drop, List.length_take]; rfl)) ?_; (with_reducible refine (testamurref07_Points.calls k _ _ l0 _ _ l1 true _ ?side1 ?side2 ?side3 ?side4 A4.out).mono ?_); (case side1 => repeat (first | exact HR0.out | (with_reducible refine Kd.C_alloc ?_ _) | (with_reducible refine Kd.C_drewN ?_ _) | (with_reducible refine Kd.C_drew ?_))); (case side2 => exact HC0.out); (case side3 => repeat (first | exact HR1.out | (with_reducible refine Kd.C_alloc ?_ _) | (with_reducible refine Kd.C_drewN ?_ _) | (with_reducible refine Kd.C_drew ?_))); (case side4 => exact HC1.out); rintro e w' ⟨rfl, ⟨nd, rfl⟩⟩; refine ⟨_, rfl, ?_⟩))
    go_loopg [8, 9] k (fun kq v8 v9 w' => ∃ (x8_1 : Int) (x9_1 : Int), v8 = .int .u8 x8_1 ∧ v9 = .int .i64 x9_1 ∧ Aside0 (testamurref07_Through.l0 kq l0 l1 a2 x8_1 x9_1 = some (r1, r2)) ∧ Aside0 (kq ≤ k) ∧ Aside0 (Below w.heap.size w w'))
    case atStart => exact ⟨(0), (0), (by first | rfl | (simp; done) | (simp [*]; done)), (by first | rfl | (simp; done) | (simp [*]; done)), H', ⟨Nat.le_refl _⟩, ⟨by repeat (first | (with_reducible first | exact HB.out | apply below_alloc | apply pw_below_drewN | apply below_drew1) | exact HB.out)⟩⟩
    case round =>
      clear H'
      try clear c1
      try clear p2
      try clear c5
      obtain ⟨x8_1, x9_1, rfl, rfl, HA, HK1, HB⟩ := hrel
      cases gk with
      | zero => exact absurd HA.out (by simp [testamurref07_Through.l0])
      | succ k1 =>
        have H := HA.out
        clear HA
        simp only [testamurref07_Through.l0] at H
        by_cases c6 : x9_1 < (l0.length : Int)
        · rw [if_pos c6] at H
          have c6b0 : decide (x9_1 < (l0.length : Int)) = true := decide_eq_true c6
          clear c6
          by_cases c7 : 0 ≤ x9_1
          · rw [if_pos c7] at H
            have c7b0 : decide (0 ≤ x9_1) = true := decide_eq_true c7
            clear c7
            by_cases c8 : x9_1 < (l1.length : Int)
            · rw [if_pos c8] at H
              have c8b0 : decide (x9_1 < (l1.length : Int)) = true := decide_eq_true c8
              clear c8
              have H' := Aside0.mk H
              clear H
              have p159 : 0 ≤ (x9_1 : Int) := of_decide_eq_true (by first | (with_reducible assumption) | assumption)
              have q159 : x9_1 < (l1.length : Int) := of_decide_eq_true (by first | (with_reducible assumption) | assumption)
              obtain ⟨ad159, e159, hx159_0⟩ := Kd.at_int HR1.out x9_1 p159 q159
              cases e159
              replace hx159_0 := (HB.out.cell (World.block_lt_of_cell? w _ hx159_0)).trans hx159_0
              replace p159 := eq_true p159
              replace q159 := eq_true q159
              go_wp2
              go_loopg [10, 11] k1 (fun kq v10 v11 w' => ∃ (x10_2 : Int) (x11_2 : Int), v10 = .int .u8 x10_2 ∧ v11 = .int .i64 x11_2 ∧ Aside0 (testamurref07_Through.l1 kq l0 l1 a2 x8_1 x9_1 x10_2 x11_2 = some (r1, r2)) ∧ Aside0 (kq ≤ k1) ∧ Aside0 (Below w.heap.size w w'))
              case atStart => exact ⟨(rd l1 x9_1), (0), (by first | rfl | (simp; done) | (simp [*]; done)), (by first | rfl | (simp; done) | (simp [*]; done)), H', ⟨Nat.le_refl _⟩, ⟨by repeat (first | (with_reducible first | exact HB.out | apply below_alloc | apply pw_below_drewN | apply below_drew1) | exact HB.out)⟩⟩
              case round =>
                clear H'
                try clear c1
                try clear p1
                try clear q1
                try clear hx1
                try clear p2
                try clear c5
                try clear c6
                try clear c6b0
                try clear c7
                try clear c7b0
                try clear c8
                try clear c8b0
                try clear hx159_0
                try clear p159
                try clear p2
                try clear q159
                obtain ⟨x10_2, x11_2, rfl, rfl, HA, HK2, HB⟩ := hrel
                cases gk with
                | zero => exact absurd HA.out (by simp [testamurref07_Through.l1])
                | succ k2 =>
                  have H := HA.out
                  clear HA
                  simp only [testamurref07_Through.l1] at H
                  by_cases c9 : x11_2 < (l0.length : Int)
                  · rw [if_pos c9] at H
                    have c9b0 : decide (x11_2 < (l0.length : Int)) = true := decide_eq_true c9
                    clear c9
                    by_cases c10 : x11_2 = x9_1
                    · rw [if_pos c10] at H
                      have c10b0 : (x11_2 == x9_1) = true := beq_iff_eq.mpr c10
                      have c10b1 : (x11_2 != x9_1) = false := bne_eq_false_iff_eq.mpr c10
                      clear c10
                      have H' := Aside0.mk H
                      clear H
                      go_wp2
                      go_roundg k2
                      case measure => have := HK1.out; have := HK2.out; omega
                      case rel => exact ⟨(x10_2), (wrap64 (x11_2 + 1)), (by first | rfl | (simp; done) | (simp [*]; done)), (by first | rfl | (simp; done) | (simp [*]; done)), H', ⟨by have := HK1.out; have := HK2.out; omega⟩, ⟨by repeat (first | (with_reducible first | exact HB.out | apply below_alloc | apply pw_below_drewN | apply below_drew1) | exact HB.out)⟩⟩
                    · rw [if_neg c10] at H
                      have c10b0 : (x11_2 == x9_1) = false := beq_eq_false_iff_ne.mpr c10
                      have c10b1 : (x11_2 != x9_1) = true := bne_iff_ne.mpr c10
                      by_cases c11 : 0 ≤ x11_2
                      · rw [if_pos c11] at H
                        have c11b0 : decide (0 ≤ x11_2) = true := decide_eq_true c11
                        clear c11
                        by_cases c12 : 0 ≤ x9_1
                        · rw [if_pos c12] at H
                          have c12b0 : decide (0 ≤ x9_1) = true := decide_eq_true c12
                          clear c12
                          by_cases c13 : x9_1 < (l0.length : Int)
                          · rw [if_pos c13] at H
                            have c13b0 : decide (x9_1 < (l0.length : Int)) = true := decide_eq_true c13
                            clear c13
                            replace H := Option.bind_eq_some_iff.mp H
                            obtain ⟨t163, A140, H⟩ := H
                            replace H : ((testamurref07_Mul.f x10_2 t163).bind fun t164 => (testamurref07_Through.l1 k2 l0 l1 a2 x8_1 x9_1 t164 (wrap64 (x11_2 + 1)))) = some (r1, r2) := H
                            have A14 := Aside0.mk A140
                            clear A140
                            replace H := Option.bind_eq_some_iff.mp H
                            obtain ⟨t164, A150, H⟩ := H
                            replace H : (testamurref07_Through.l1 k2 l0 l1 a2 x8_1 x9_1 t164 (wrap64 (x11_2 + 1))) = some (r1, r2) := H
                            have A15 := Aside0.mk A150
                            clear A150
                            have H' := Aside0.mk H
                            clear H
                            try go_wp2
                            have n0_ := Aside0.mk (below_drew1 HB.out)
                            clear HB
                            have HB := n0_
                            clear n0_
                            have p160 : 0 ≤ (x11_2 : Int) := of_decide_eq_true (by first | (with_reducible assumption) | assumption)
                            have q160 : x11_2 < (l0.length : Int) := of_decide_eq_true (by first | (with_reducible assumption) | assumption)
                            obtain ⟨ad160, e160, hx160_0⟩ := Kd.at_int HR0.out x11_2 p160 q160
                            have hw160_0 := hx160_0
                            cases e160
                            replace hx160_0 := (HB.out.cell (World.block_lt_of_cell? w _ hx160_0)).trans hx160_0
                            replace p160 := eq_true p160
                            replace q160 := eq_true q160
                            have p161 : 0 ≤ (x9_1 : Int) := of_decide_eq_true (by first | (with_reducible assumption) | assumption)
                            have q161 : x9_1 < (l0.length : Int) := of_decide_eq_true (by first | (with_reducible assumption) | assumption)
                            obtain ⟨ad161, e161, hx161_0⟩ := Kd.at_int HR0.out x9_1 p161 q161
                            have hw161_0 := hx161_0
                            obtain rfl : ad160 = ad161 := (by injection e161)
                            replace hx161_0 := (HB.out.cell (World.block_lt_of_cell? w _ hx161_0)).trans hx161_0
                            replace p161 := eq_true p161
                            replace q161 := eq_true q161
                            have p162 : 0 ≤ (x11_2 : Int) := of_decide_eq_true (by first | (with_reducible assumption) | assumption)
                            have q162 : x11_2 < (l0.length : Int) := of_decide_eq_true (by first | (with_reducible assumption) | assumption)
                            obtain ⟨ad162, e162, hx162_0⟩ := Kd.at_int HR0.out x11_2 p162 q162
                            have hw162_0 := hx162_0
                            obtain rfl : ad160 = ad162 := (by injection e162)
                            replace hx162_0 := (HB.out.cell (World.block_lt_of_cell? w _ hx162_0)).trans hx162_0
                            replace p162 := eq_true p162
                            replace q162 := eq_true q162
                            refine start_ (n := 19) (S := fun w' => w'.cell? (ad160.add (x11_2).toNat) = some (.int .u8 (rd l0 x11_2)) ∧ w'.cell? (ad160.add (x9_1).toNat) = some (.int .u8 (rd l0 x9_1)) ∧ w'.cell? (ad160.add (x11_2).toNat) = some (.int .u8 (rd l0 x11_2))) (ds := []) #[false, false, false, false, false, false, false, false, false, false, false, false, false, false, false, false, false, false, false] (by kernel_rfl) rfl rfl ⟨((HB.out.cell (World.block_lt_of_cell? w _ hw160_0)).trans hw160_0), ((HB.out.cell (World.block_lt_of_cell? w _ hw161_0)).trans hw161_0), ((HB.out.cell (World.block_lt_of_cell? w _ hw162_0)).trans hw162_0)⟩ (fun hHeld => ?_); refine with_tabW testamurref07_Through.tab12 testamurref07_Through.bits12 (fun HT_ HW_ => ?_)
                            generalize wr.drew = w16 at HB hx160_0 hx161_0 hx162_0 hHeld ⊢
                            refine pure_ (i := 0) (N := some 35) (v := ?_) (a' := ?_) #[true, false, false, false, false, false, false, false, false, false, false, false, false, false, false, false, false, false, false] rfl rfl (any_of HT_.out (by kernel_rfl)) (fun _ _ _ h => h) (Or.inl ⟨by rfl, ?_⟩) ?_ ?_
                            rotate_left
                            · intro w'
                              go_simp
                              with_reducible rfl
                            rotate_left
                            · simp only [Act.put, List.setIfInBounds_toArray, List.set_cons_zero, List.set_cons_succ, i64_w, i32_w]
                              rfl
                            refine pure_ (i := 1) (N := some 36) (v := ?_) (a' := ?_) #[true, true, false, false, false, false, false, false, false, false, false, false, false, false, false, false, false, false, false] rfl rfl (any_of HT_.out (by kernel_rfl)) (fun _ _ _ h => h) (Or.inl ⟨by rfl, ?_⟩) ?_ ?_
                            rotate_left
                            · intro w'
                              go_simp
                              with_reducible rfl
                            rotate_left
                            · simp only [Act.put, List.setIfInBounds_toArray, List.set_cons_zero, List.set_cons_succ, i64_w, i32_w]
                              rfl
                            refine pure_ (i := 2) (N := some 37) (v := ?_) (a' := ?_) #[true, true, true, false, false, false, false, false, false, false, false, false, false, false, false, false, false, false, false] rfl rfl (any_of HT_.out (by kernel_rfl)) (fun _ _ _ h => h) (Or.inl ⟨by rfl, ?_⟩) ?_ ?_
                            rotate_left
                            · intro w'
                              go_simp
                              with_reducible rfl
                            rotate_left
                            · simp only [Act.put, List.setIfInBounds_toArray, List.set_cons_zero, List.set_cons_succ, i64_w, i32_w]
                              rfl
                            refine pure_ (i := 3) (N := some 38) (v := ?_) (a' := ?_) #[true, true, true, true, false, false, false, false, false, false, false, false, false, false, false, false, false, false, false] rfl rfl (any_of HT_.out (by kernel_rfl)) (fun _ _ _ h => h) (Or.inl ⟨by rfl, ?_⟩) ?_ ?_
                            rotate_left
                            · intro w'
                              go_simp
                              with_reducible rfl
                            rotate_left
                            · simp only [Act.put, List.setIfInBounds_toArray, List.set_cons_zero, List.set_cons_succ, i64_w, i32_w]
                              rfl
                            refine pure_ (i := 4) (N := some 39) (v := ?_) (a' := ?_) #[true, true, true, true, true, false, false, false, false, false, false, false, false, false, false, false, false, false, false] rfl rfl (any_of HT_.out (by kernel_rfl)) (fun _ _ _ h => h) (Or.inl ⟨by rfl, ?_⟩) ?_ ?_
                            rotate_left
                            · intro w'
                              go_simp
                              with_reducible rfl
                            rotate_left
                            · simp only [Act.put, List.setIfInBounds_toArray, List.set_cons_zero, List.set_cons_succ, i64_w, i32_w]
                              rfl
                            refine pure_ (i := 7) (N := some 42) (v := ?_) (a' := ?_) #[true, true, true, true, true, false, false, true, false, false, false, false, false, false, false, false, false, false, false] rfl rfl (any_of HT_.out (by kernel_rfl)) (fun _ _ _ h => h) (Or.inl ⟨by rfl, ?_⟩) ?_ ?_
                            rotate_left
                            · intro w'
                              go_simp
                              with_reducible rfl
                            rotate_left
                            · simp only [Act.put, List.setIfInBounds_toArray, List.set_cons_zero, List.set_cons_succ, i64_w, i32_w]
                              rfl
                            refine pure_ (i := 8) (N := some 43) (v := ?_) (a' := ?_) #[true, true, true, true, true, false, false, true, true, false, false, false, false, false, false, false, false, false, false] rfl rfl (any_of HT_.out (by kernel_rfl)) (fun _ _ _ h => h) (Or.inl ⟨by rfl, ?_⟩) ?_ ?_
                            rotate_left
                            · intro w'
                              go_simp
                              with_reducible rfl
                            rotate_left
                            · simp only [Act.put, List.setIfInBounds_toArray, List.set_cons_zero, List.set_cons_succ, i64_w, i32_w]
                              rfl
                            refine pure_ (i := 9) (N := some 44) (v := ?_) (a' := ?_) #[true, true, true, true, true, false, false, true, true, true, false, false, false, false, false, false, false, false, false] rfl rfl (any_of HT_.out (by kernel_rfl)) (fun _ _ _ h => h) (Or.inl ⟨by rfl, ?_⟩) ?_ ?_
                            rotate_left
                            · intro w'
                              go_simp
                              with_reducible rfl
                            rotate_left
                            · simp only [Act.put, List.setIfInBounds_toArray, List.set_cons_zero, List.set_cons_succ, i64_w, i32_w]
                              rfl
                            refine pure_ (i := 11) (N := some 46) (v := ?_) (a' := ?_) #[true, true, true, true, true, false, false, true, true, true, false, true, false, false, false, false, false, false, false] rfl rfl (any_of HT_.out (by kernel_rfl)) (fun _ _ _ h => h) (Or.inl ⟨by rfl, ?_⟩) ?_ ?_
                            rotate_left
                            · intro w'
                              go_simp
                              with_reducible rfl
                            rotate_left
                            · simp only [Act.put, List.setIfInBounds_toArray, List.set_cons_zero, List.set_cons_succ, i64_w, i32_w]
                              rfl
                            refine pure_ (i := 12) (N := some 47) (v := ?_) (a' := ?_) #[true, true, true, true, true, false, false, true, true, true, false, true, true, false, false, false, false, false, false] rfl rfl (any_of HT_.out (by kernel_rfl)) (fun _ _ _ h => h) (Or.inl ⟨by rfl, ?_⟩) ?_ ?_
                            rotate_left
                            · intro w'
                              go_simp
                              with_reducible rfl
                            rotate_left
                            · simp only [Act.put, List.setIfInBounds_toArray, List.set_cons_zero, List.set_cons_succ, i64_w, i32_w]
                              rfl
                            refine pure_ (i := 13) (N := some 48) (v := ?_) (a' := ?_) #[true, true, true, true, true, false, false, true, true, true, false, true, true, true, false, false, false, false, false] rfl rfl (any_of HT_.out (by kernel_rfl)) (fun _ _ _ h => h) (Or.inl ⟨by rfl, ?_⟩) ?_ ?_
                            rotate_left
                            · intro w'
                              go_simp
                              with_reducible rfl
                            rotate_left
                            · simp only [Act.put, List.setIfInBounds_toArray, List.set_cons_zero, List.set_cons_succ, i64_w, i32_w]
                              rfl
                            refine take_ (i := 5) (N := some 40) (v := ?_) (a' := ?_) #[true, true, true, true, true, true, false, true, true, true, false, true, true, true, false, false, false, false, false] rfl rfl (take_ofW HT_.out HW_.out (by kernel_rfl)) (fun _ _ _ h => h) (Or.inl ⟨by rfl, ?_⟩) hHeld ?_ ?_
                            rotate_left
                            · rintro w' ⟨s0, s1, s2⟩
                              go_simp
                              with_reducible rfl
                            rotate_left
                            · simp only [Act.put, List.setIfInBounds_toArray, List.set_cons_zero, List.set_cons_succ, i64_w, i32_w]
                              rfl
                            refine pure_ (i := 6) (N := some 41) (v := ?_) (a' := ?_) #[true, true, true, true, true, true, true, true, true, true, false, true, true, true, false, false, false, false, false] rfl rfl (any_of HT_.out (by kernel_rfl)) (fun _ _ _ h => h) (Or.inl ⟨by rfl, ?_⟩) ?_ ?_
                            rotate_left
                            · intro w'
                              go_simp
                              with_reducible rfl
                            rotate_left
                            · simp only [Act.put, List.setIfInBounds_toArray, List.set_cons_zero, List.set_cons_succ, i64_w, i32_w]
                              rfl
                            refine take_ (i := 10) (N := some 45) (v := ?_) (a' := ?_) #[true, true, true, true, true, true, true, true, true, true, true, true, true, true, false, false, false, false, false] rfl rfl (take_ofW HT_.out HW_.out (by kernel_rfl)) (fun _ _ _ h => h) (Or.inl ⟨by rfl, ?_⟩) hHeld ?_ ?_
                            rotate_left
                            · rintro w' ⟨s0, s1, s2⟩
                              go_simp
                              with_reducible rfl
                            rotate_left
                            · simp only [Act.put, List.setIfInBounds_toArray, List.set_cons_zero, List.set_cons_succ, i64_w, i32_w]
                              rfl
                            refine take_ (i := 14) (N := some 49) (v := ?_) (a' := ?_) #[true, true, true, true, true, true, true, true, true, true, true, true, true, true, true, false, false, false, false] rfl rfl (take_ofW HT_.out HW_.out (by kernel_rfl)) (fun _ _ _ h => h) (Or.inl ⟨by rfl, ?_⟩) hHeld ?_ ?_
                            rotate_left
                            · rintro w' ⟨s0, s1, s2⟩
                              go_simp
                              with_reducible rfl
                            rotate_left
                            · simp only [Act.put, List.setIfInBounds_toArray, List.set_cons_zero, List.set_cons_succ, i64_w, i32_w]
                              rfl
                            refine pure_ (i := 15) (N := some 50) (v := ?_) (a' := ?_) #[true, true, true, true, true, true, true, true, true, true, true, true, true, true, true, true, false, false, false] rfl rfl (any_of HT_.out (by kernel_rfl)) (fun _ _ _ h => h) (Or.inl ⟨by rfl, ?_⟩) ?_ ?_
                            rotate_left
                            · intro w'
                              go_simp
                              with_reducible rfl
                            rotate_left
                            · simp only [Act.put, List.setIfInBounds_toArray, List.set_cons_zero, List.set_cons_succ, i64_w, i32_w]
                              rfl
                            refine one_ (i := 16) (N := some 51) #[true, true, true, true, true, true, true, true, true, true, true, true, true, true, true, true, true, false, false] rfl rfl (one_of HT_.out (by kernel_rfl)) (by decide) (fun K hK => ?_)
                            refine goes_ Try.func58 (by kernel_rfl) rfl #[.int .u8 (Go.bits .xor .u8 a2 (rd l0 x11_2)), .int .u8 (Go.bits .xor .u8 (rd l0 x9_1) (rd l0 x11_2))] (by rfl) rfl rfl (by (try simp only [List.map_toArray, List.map_cons, List.map_nil]); first | done | rfl | (simp only [List.length_drop, List.length_take]; rfl)) ?_
                            with_reducible refine (testamurref07_over.calls (Go.bits .xor .u8 a2 (rd l0 x11_2)) (Go.bits .xor .u8 (rd l0 x9_1) (rd l0 x11_2)) t163 _ A14.out).mono ?_
                            rintro e w17 ⟨rfl, hb⟩
                            refine ⟨_, rfl, ?_⟩
                            have n0_ := Aside0.mk (below_step (by repeat (first | (with_reducible first | exact HB.out | apply below_alloc | apply pw_below_drewN | apply below_drew1) | exact HB.out)) hb)
                            clear HB
                            have HB := n0_
                            clear n0_
                            (try clear hb)
                            (try clear hb2)
                            (try clear hk)
                            (try clear hi)
                            refine hK.out _ _ ⟨((HB.out.cell (World.block_lt_of_cell? w _ hw160_0)).trans hw160_0), ((HB.out.cell (World.block_lt_of_cell? w _ hw161_0)).trans hw161_0), ((HB.out.cell (World.block_lt_of_cell? w _ hw162_0)).trans hw162_0)⟩ (fun hHeld => ?_)
                            clear hK K
                            refine norm_ (a' := ?_) ?_ ?_
                            rotate_left
                            · show Act.put _ (some 51) _ = _
                              simp only [Act.put, List.setIfInBounds_toArray, List.set_cons_zero, List.set_cons_succ, i64_w, i32_w]
                              rfl
                            refine one_ (i := 17) (N := some 52) #[true, true, true, true, true, true, true, true, true, true, true, true, true, true, true, true, true, true, false] rfl rfl (one_of HT_.out (by kernel_rfl)) (by decide) (fun K hK => ?_)
                            refine goes_ Try.func19 (by kernel_rfl) rfl #[.int .u8 x10_2, .int .u8 t163] (by rfl) rfl rfl (by (try simp only [List.map_toArray, List.map_cons, List.map_nil]); first | done | rfl | (simp only [List.length_drop, List.length_take]; rfl)) ?_
                            with_reducible refine (testamurref07_Mul.calls x10_2 t163 t164 _ A15.out).mono ?_
                            rintro e w18 ⟨rfl, hb⟩
                            refine ⟨_, rfl, ?_⟩
                            have n0_ := Aside0.mk (below_step (by repeat (first | (with_reducible first | exact HB.out | apply below_alloc | apply pw_below_drewN | apply below_drew1) | exact HB.out)) hb)
                            clear HB
                            have HB := n0_
                            clear n0_
                            (try clear hb)
                            (try clear hb2)
                            (try clear hk)
                            (try clear hi)
                            refine hK.out _ _ ⟨((HB.out.cell (World.block_lt_of_cell? w _ hw160_0)).trans hw160_0), ((HB.out.cell (World.block_lt_of_cell? w _ hw161_0)).trans hw161_0), ((HB.out.cell (World.block_lt_of_cell? w _ hw162_0)).trans hw162_0)⟩ (fun hHeld => ?_)
                            clear hK K
                            refine norm_ (a' := ?_) ?_ ?_
                            rotate_left
                            · show Act.put _ (some 52) _ = _
                              simp only [Act.put, List.setIfInBounds_toArray, List.set_cons_zero, List.set_cons_succ, i64_w, i32_w]
                              rfl
                            refine pure_ (i := 18) (N := some 10) (v := ?_) (a' := ?_) #[true, true, true, true, true, true, true, true, true, true, true, true, true, true, true, true, true, true, true] rfl rfl (any_of HT_.out (by kernel_rfl)) (fun _ _ _ h => h) (Or.inl ⟨by rfl, ?_⟩) ?_ ?_
                            rotate_left
                            · intro w'
                              go_simp
                              with_reducible rfl
                            rotate_left
                            · simp only [Act.put, List.setIfInBounds_toArray, List.set_cons_zero, List.set_cons_succ, i64_w, i32_w]
                              rfl
                            refine done_ (done_of HT_.out (by kernel_rfl)) ?_
                            try go_wp2
                            go_roundg k2
                            case measure => have := HK1.out; have := HK2.out; omega
                            case rel => exact ⟨(t164), (wrap64 (x11_2 + 1)), (by first | rfl | (simp; done) | (simp [*]; done)), (by first | rfl | (simp; done) | (simp [*]; done)), H', ⟨by have := HK1.out; have := HK2.out; omega⟩, ⟨by repeat (first | (with_reducible first | exact HB.out | apply below_alloc | apply pw_below_drewN | apply below_drew1) | exact HB.out)⟩⟩
                          · rw [if_neg c13] at H
                            exact absurd H (by simp)
                        · rw [if_neg c12] at H
                          exact absurd H (by simp)
                      · rw [if_neg c11] at H
                        exact absurd H (by simp)
                  · rw [if_neg c9] at H
                    have c9b0 : decide (x11_2 < (l0.length : Int)) = false := decide_eq_false c9
                    clear c9
                    have H' := Aside0.mk H
                    clear H
                    go_wp2
                    go_roundg k2
                    case measure => have := HK1.out; have := HK2.out; omega
                    case rel => exact ⟨(Go.bits .xor .u8 x8_1 x10_2), (wrap64 (x9_1 + 1)), (by first | rfl | (simp; done) | (simp [*]; done)), (by first | rfl | (simp; done) | (simp [*]; done)), H', ⟨by have := HK1.out; have := HK2.out; omega⟩, ⟨by repeat (first | (with_reducible first | exact HB.out | apply below_alloc | apply pw_below_drewN | apply below_drew1) | exact HB.out)⟩⟩
            · rw [if_neg c8] at H
              exact absurd H (by simp)
          · rw [if_neg c7] at H
            exact absurd H (by simp)
        · rw [if_neg c6] at H
          have c6b0 : decide (x9_1 < (l0.length : Int)) = false := decide_eq_false c6
          clear c6
          simp only [Option.some.injEq, Prod.mk.injEq] at H
          obtain ⟨rfl, rfl⟩ := H
          go_wp2
          go_ret2
          exact ⟨by first | rfl | (simp [errW_none, errW_some] <;> rfl) | (simp [*, errW_none, errW_some] <;> rfl), by repeat (first | (with_reducible first | exact HB.out | apply below_alloc | apply pw_below_drewN | apply below_drew1) | exact HB.out)⟩
  · replace c5 := Bool.eq_false_iff.mpr c5
    subst c5
    have H1 : (some (0, 1)) = some (r1, r2) := by rw [if_neg (show ¬ (false = true) by decide)] at H; exact H
    clear H
    have H := H1
    clear H1
    simp only [Option.some.injEq, Prod.mk.injEq] at H
    obtain ⟨rfl, rfl⟩ := H
    go_enter Try.func52, Try.ntmps52
    go_wp2_with (first | ((with_reducible refine gate_callee (f := 57) rfl ?_); refine goesL_ (some 14) rfl rfl Try.func57 (by kernel_rfl) rfl #[.slice A0 l0.length c0, .slice A1 l1.length c1] rfl (by (try simp only [List.map_toArray, List.map_cons, List.map_nil]); first | done | rfl | (simp only [List.length_drop, List.length_take]; rfl)) ?_; (with_reducible refine (testamurref07_Points.calls k _ _ l0 _ _ l1 false _ ?side1 ?side2 ?side3 ?side4 A4.out).mono ?_); (case side1 => repeat (first | exact HR0.out | (with_reducible refine Kd.C_alloc ?_ _) | (with_reducible refine Kd.C_drewN ?_ _) | (with_reducible refine Kd.C_drew ?_))); (case side2 => exact HC0.out); (case side3 => repeat (first | exact HR1.out | (with_reducible refine Kd.C_alloc ?_ _) | (with_reducible refine Kd.C_drewN ?_ _) | (with_reducible refine Kd.C_drew ?_))); (case side4 => exact HC1.out); rintro e w' ⟨rfl, ⟨nd, rfl⟩⟩; refine ⟨_, rfl, ?_⟩))
    go_ret2
    exact ⟨by first | rfl | (simp [errW_none, errW_some] <;> rfl) | (simp [*, errW_none, errW_some] <;> rfl), by repeat (first | (with_reducible first | exact HB.out | apply below_alloc | apply pw_below_drewN | apply below_drew1) | exact HB.out)⟩
end Go.Proofs.Ytillfbohengpaaa.PA
end
section
namespace Go.Proofs.Ytillfbohengpaaa.PA
open Go.RowKit Go.Proofs.YtillfbohengpaaaW.PrintWords Go.Proofs.YtillfbohengpaaaW.PrintLast Go.Proofs.YtillfbohengpaaaW.PrintMore
attribute [local go_sem] max2_int min2_int max_two min_two max_three min_three max_four min_four   -- for this text's walks alone
set_option linter.unusedVariables false
set_option linter.unusedSimpArgs false
def testamurref08_Join.l0 : Nat → List (S52) → List Int → Int → Option (List Int × Int)
  | 0, _, _, _ => none
  | k + 1, x0, x5, x6 => if 0 < (x0.length : Int) then (if x6 < (((rd_T52 x0 0).f4).length : Int) then (if 0 ≤ ((rd_T52 x0 0).f2) then (if ((rd_T52 x0 0).f2) ≤ (x0.length : Int) then ((testamurref08_points.f k (x0.take (((rd_T52 x0 0).f2) : Int).toNat) x6).bind fun bt173 => ((testamurref07_Through.f k bt173.1 bt173.2 0).bind fun bt179 => (if x5.length < 140737488355328 then (testamurref08_Join.l0 k x0 (x5 ++ [bt179.1]) (wrap64 (x6 + 1))) else (none)))) else (none)) else (none)) else (some (x5, 0))) else (none)
def testamurref08_Join.f (k : Nat) (l0 : List (S52)) : Option (List Int × Int) := (testamurref08_Check.f k l0).bind fun t165 => (if t165 = 0 then (if 0 < (l0.length : Int) then (if (l0.length : Int) < ((rd_T52 l0 0).f2) then (some (([] : List Int), 80)) else (testamurref08_Join.l0 k l0 ([] : List Int) 0)) else (none)) else (some (([] : List Int), t165)))
theorem testamurref08_Join.mono_l : ∀ k, (∀ y0 y1 y2, LeO (testamurref08_Join.l0 k y0 y1 y2) (testamurref08_Join.l0 (k + 1) y0 y1 y2))
  | 0 => fun _ _ _ r h => by simp [testamurref08_Join.l0] at h
  | k + 1 => by
    have ih0 := testamurref08_Join.mono_l k
    · intro y0 y1 y2
      unfold testamurref08_Join.l0
      repeat' first
      | (with_reducible exact ih0 _ _ _)
      | (with_reducible exact testamurref07_Through.mono _ _ _ _)
      | (with_reducible exact testamurref08_Check.mono _ _)
      | (with_reducible exact testamurref08_points.mono _ _ _)
      | (with_reducible exact LeO.refl _)
      | (with_reducible exact LeO.none _)
      | (with_reducible refine LeO.ite ?_ ?_)
      | (with_reducible refine LeO.bind ?_ (fun _ => ?_))
      | exact ih0 _ _ _
      | exact testamurref07_Through.mono _ _ _ _
      | exact testamurref08_Check.mono _ _
      | exact testamurref08_points.mono _ _ _
      | exact LeO.none _
      | refine LeO.ite ?_ ?_
      | refine LeO.bind ?_ (fun _ => ?_)
theorem testamurref08_Join.mono : ∀ a0 k, LeO (testamurref08_Join.f k a0) (testamurref08_Join.f (k + 1) a0) := by
  intro a0 k
  have ih0 := testamurref08_Join.mono_l k
  unfold testamurref08_Join.f
  repeat' first
      | (with_reducible exact ih0 _ _ _)
      | (with_reducible exact testamurref07_Through.mono _ _ _ _)
      | (with_reducible exact testamurref08_Check.mono _ _)
      | (with_reducible exact testamurref08_points.mono _ _ _)
      | (with_reducible exact LeO.refl _)
      | (with_reducible exact LeO.none _)
      | (with_reducible refine LeO.ite ?_ ?_)
      | (with_reducible refine LeO.bind ?_ (fun _ => ?_))
      | exact ih0 _ _ _
      | exact testamurref07_Through.mono _ _ _ _
      | exact testamurref08_Check.mono _ _
      | exact testamurref08_points.mono _ _ _
      | exact LeO.none _
      | refine LeO.ite ?_ ?_
      | refine LeO.bind ?_ (fun _ => ?_)
set_option maxHeartbeats 8000000 in
set_option maxRecDepth 100000 in
theorem testamurref08_Join.calls (k : Nat) (A0 : Option Addr) (c0 : Nat) (l0 : List (S52)) (r1 : List Int) (r2 : Int) (w : World) (hr0 : Kd.C k52 w A0 l0.length l0) (hc0 : l0.length ≤ c0) (h : testamurref08_Join.f k l0 = some (r1, r2)) :
    Calls Try.prog 31 #[.slice A0 l0.length c0] w fun e w' => ∃ v0_ : Value, e = .returned (.tuple #[v0_, .int .i64 r2]) ∧ Kd.R (Kd.int .u8) 5 w' w.heap.size (fun _ => True) v0_ r1 ∧ Below w.heap.size w w' := by
  have HR0 := Aside0.mk hr0
  have HC0 := Aside0.mk hc0
  clear hr0 hc0
  have HB := Aside0.mk (Below.refl w.heap.size w)
  have H : ((testamurref08_Check.f k l0).bind fun t165 => (if t165 = 0 then (if 0 < (l0.length : Int) then (if (l0.length : Int) < ((rd_T52 l0 0).f2) then (some (([] : List Int), 80)) else (testamurref08_Join.l0 k l0 ([] : List Int) 0)) else (none)) else (some (([] : List Int), t165)))) = some (r1, r2) := h
  clear h
  replace H := Option.bind_eq_some_iff.mp H
  obtain ⟨t165, A20, H⟩ := H
  replace H : (if t165 = 0 then (if 0 < (l0.length : Int) then (if (l0.length : Int) < ((rd_T52 l0 0).f2) then (some (([] : List Int), 80)) else (testamurref08_Join.l0 k l0 ([] : List Int) 0)) else (none)) else (some (([] : List Int), t165))) = some (r1, r2) := H
  have A2 := Aside0.mk A20
  clear A20
  by_cases c3 : t165 = 0
  · rw [if_pos c3] at H
    have c3b0 : (t165 == 0) = true := beq_iff_eq.mpr c3
    have c3b1 : (t165 != 0) = false := bne_eq_false_iff_eq.mpr c3
    clear c3
    by_cases c4 : 0 < (l0.length : Int)
    · rw [if_pos c4] at H
      have c4b0 : decide (0 < (l0.length : Int)) = true := decide_eq_true c4
      have c4b1 : decide (0 < l0.length) = true := decide_eq_true (by omega)
      clear c4
      by_cases c5 : (l0.length : Int) < ((rd_T52 l0 0).f2)
      · rw [if_pos c5] at H
        have c5b0 : decide ((l0.length : Int) < ((rd_T52 l0 0).f2)) = true := decide_eq_true c5
        clear c5
        simp only [Option.some.injEq, Prod.mk.injEq] at H
        obtain ⟨rfl, rfl⟩ := H
        go_enter Try.func31, Try.ntmps31
        go_wp2_with (first | ((with_reducible refine gate_callee (f := 28) rfl ?_); refine goesL_ (some 12) rfl rfl Try.func28 (by kernel_rfl) rfl #[.slice A0 l0.length c0] rfl (by (try simp only [List.map_toArray, List.map_cons, List.map_nil]); first | done | rfl | (simp only [List.length_drop, List.length_take]; rfl)) ?_; (with_reducible refine (testamurref08_Check.calls k _ _ l0 t165 _ ?side1 ?side2 A2.out).mono ?_); (case side1 => repeat (first | exact HR0.out | (with_reducible refine Kd.C_alloc ?_ _) | (with_reducible refine Kd.C_drewN ?_ _) | (with_reducible refine Kd.C_drew ?_))); (case side2 => exact HC0.out); rintro e w6 ⟨rfl, hb⟩; refine ⟨_, rfl, ?_⟩; have n0_ := Aside0.mk (below_step (by repeat (first | (with_reducible first | exact HB.out | apply below_alloc | apply pw_below_drewN | apply below_drew1) | exact HB.out)) hb); clear HB; have HB := n0_; clear n0_; (try clear hb); (try clear hb2); (try clear hk); (try clear hi); have p166 : 0 ≤ (0 : Int) := (by omega); have q166 : 0 < (l0.length : Int) := of_decide_eq_true (by first | (with_reducible assumption) | assumption); obtain ⟨ad166, A166_4, c166_4, e166, hx166_0, hx166_1, hx166_2, hx166_3, hx166_4, hl166_4, hi166_4⟩ := at_T52 HR0.out 0 p166 q166; cases e166; have qi166 : (0 < l0.length) = True := eq_true (by omega); (try rw [show ((0 : Int)).toNat = 0 from rfl] at hx166_0); (try rw [show 0 * 5 = 0 from rfl] at hx166_0); (try rw [Addr.add_zero'] at hx166_0); (try rw [show ((0 : Int)).toNat = 0 from rfl] at hx166_1); (try rw [show 0 * 5 = 0 from rfl] at hx166_1); (try rw [Addr.add_zero'] at hx166_1); (try rw [show ((0 : Int)).toNat = 0 from rfl] at hx166_2); (try rw [show 0 * 5 = 0 from rfl] at hx166_2); (try rw [Addr.add_zero'] at hx166_2); (try rw [show ((0 : Int)).toNat = 0 from rfl] at hx166_3); (try rw [show 0 * 5 = 0 from rfl] at hx166_3); (try rw [Addr.add_zero'] at hx166_3); (try rw [show ((0 : Int)).toNat = 0 from rfl] at hx166_4); (try rw [show 0 * 5 = 0 from rfl] at hx166_4); (try rw [Addr.add_zero'] at hx166_4); replace hx166_0 := (HB.out.cell (World.block_lt_of_cell? w _ hx166_0)).trans hx166_0; replace hx166_1 := (HB.out.cell (World.block_lt_of_cell? w _ hx166_1)).trans hx166_1; replace hx166_2 := (HB.out.cell (World.block_lt_of_cell? w _ hx166_2)).trans hx166_2; replace hx166_3 := (HB.out.cell (World.block_lt_of_cell? w _ hx166_3)).trans hx166_3; replace hx166_4 := (HB.out.cell (World.block_lt_of_cell? w _ hx166_4)).trans hx166_4; have HR166_4 := Aside0.mk hi166_4; have HC166_4 := Aside0.mk hl166_4; clear hi166_4 hl166_4; replace p166 := eq_true p166; replace q166 := eq_true q166))
        go_ret2
        exact ⟨_, by first | rfl | (simp [errW_none, errW_some] <;> rfl) | (simp [*, errW_none, errW_some] <;> rfl), by first | exact Kd.R_nil _ _ _ _ _ | exact Kd.N_nil _ _ _ _ _ | exact Kd.V_nil _ _ _ _ _ | exact Kd.Q_nil _ _ _ _ _ | exact Kd.S_nil _ _ _ _ _, by repeat (first | (with_reducible first | exact HB.out | apply below_alloc | apply pw_below_drewN | apply below_drew1) | exact HB.out)⟩
      · rw [if_neg c5] at H
        have c5b0 : decide ((l0.length : Int) < ((rd_T52 l0 0).f2)) = false := decide_eq_false c5
        clear c5
        have H' := Aside0.mk H
        clear H
        go_enter Try.func31, Try.ntmps31
        go_wp2_with (first | ((with_reducible refine gate_callee (f := 28) rfl ?_); refine goesL_ (some 12) rfl rfl Try.func28 (by kernel_rfl) rfl #[.slice A0 l0.length c0] rfl (by (try simp only [List.map_toArray, List.map_cons, List.map_nil]); first | done | rfl | (simp only [List.length_drop, List.length_take]; rfl)) ?_; (with_reducible refine (testamurref08_Check.calls k _ _ l0 t165 _ ?side1 ?side2 A2.out).mono ?_); (case side1 => repeat (first | exact HR0.out | (with_reducible refine Kd.C_alloc ?_ _) | (with_reducible refine Kd.C_drewN ?_ _) | (with_reducible refine Kd.C_drew ?_))); (case side2 => exact HC0.out); rintro e w7 ⟨rfl, hb⟩; refine ⟨_, rfl, ?_⟩; have n0_ := Aside0.mk (below_step (by repeat (first | (with_reducible first | exact HB.out | apply below_alloc | apply pw_below_drewN | apply below_drew1) | exact HB.out)) hb); clear HB; have HB := n0_; clear n0_; (try clear hb); (try clear hb2); (try clear hk); (try clear hi); have p166 : 0 ≤ (0 : Int) := (by omega); have q166 : 0 < (l0.length : Int) := of_decide_eq_true (by first | (with_reducible assumption) | assumption); obtain ⟨ad166, A166_4, c166_4, e166, hx166_0, hx166_1, hx166_2, hx166_3, hx166_4, hl166_4, hi166_4⟩ := at_T52 HR0.out 0 p166 q166; cases e166; have qi166 : (0 < l0.length) = True := eq_true (by omega); (try rw [show ((0 : Int)).toNat = 0 from rfl] at hx166_0); (try rw [show 0 * 5 = 0 from rfl] at hx166_0); (try rw [Addr.add_zero'] at hx166_0); (try rw [show ((0 : Int)).toNat = 0 from rfl] at hx166_1); (try rw [show 0 * 5 = 0 from rfl] at hx166_1); (try rw [Addr.add_zero'] at hx166_1); (try rw [show ((0 : Int)).toNat = 0 from rfl] at hx166_2); (try rw [show 0 * 5 = 0 from rfl] at hx166_2); (try rw [Addr.add_zero'] at hx166_2); (try rw [show ((0 : Int)).toNat = 0 from rfl] at hx166_3); (try rw [show 0 * 5 = 0 from rfl] at hx166_3); (try rw [Addr.add_zero'] at hx166_3); (try rw [show ((0 : Int)).toNat = 0 from rfl] at hx166_4); (try rw [show 0 * 5 = 0 from rfl] at hx166_4); (try rw [Addr.add_zero'] at hx166_4); replace hx166_0 := (HB.out.cell (World.block_lt_of_cell? w _ hx166_0)).trans hx166_0; replace hx166_1 := (HB.out.cell (World.block_lt_of_cell? w _ hx166_1)).trans hx166_1; replace hx166_2 := (HB.out.cell (World.block_lt_of_cell? w _ hx166_2)).trans hx166_2; replace hx166_3 := (HB.out.cell (World.block_lt_of_cell? w _ hx166_3)).trans hx166_3; replace hx166_4 := (HB.out.cell (World.block_lt_of_cell? w _ hx166_4)).trans hx166_4; have HR166_4 := Aside0.mk hi166_4; have HC166_4 := Aside0.mk hl166_4; clear hi166_4 hl166_4; replace p166 := eq_true p166; replace q166 := eq_true q166))
        go_loopg [5, 6] k (fun kq v5 v6 w' => ∃ (x5_1 : List Int) (x6_1 : Int), v6 = .int .i64 x6_1 ∧ Aside0 (testamurref08_Join.l0 kq l0 x5_1 x6_1 = some (r1, r2)) ∧ Aside0 (kq ≤ k) ∧ Aside0 (Kd.R (Kd.int .u8) 5 w' w.heap.size (fun _ => True) v5 x5_1) ∧ Aside0 (Below w.heap.size w w'))
        case atStart => exact ⟨(([] : List Int)), (0), (by first | rfl | (simp; done) | (simp [*]; done)), H', ⟨Nat.le_refl _⟩, ⟨by first | exact Kd.R_nil _ _ _ _ _ | exact Kd.N_nil _ _ _ _ _ | exact Kd.V_nil _ _ _ _ _ | exact Kd.Q_nil _ _ _ _ _ | exact Kd.S_nil _ _ _ _ _⟩, ⟨by repeat (first | (with_reducible first | exact HB.out | apply below_alloc | apply pw_below_drewN | apply below_drew1) | exact HB.out)⟩⟩
        case round =>
          clear H'
          try clear c1
          try clear p1
          try clear q1
          try clear hx1
          try clear qi1
          try clear c2
          try clear p2
          try clear c3
          try clear c3b0
          try clear c3b1
          try clear c4
          try clear c4b0
          try clear c4b1
          try clear c5
          try clear c5b0
          try clear hx166_0
          try clear hx166_1
          try clear hx166_2
          try clear hx166_3
          try clear hx166_4
          try clear p166
          try clear q166
          obtain ⟨x5_1, x6_1, rfl, HA, HK1, HO_5, HB⟩ := hrel
          cases gk with
          | zero => exact absurd HA.out (by simp [testamurref08_Join.l0])
          | succ k1 =>
            have H := HA.out
            clear HA
            simp only [testamurref08_Join.l0] at H
            by_cases c8 : 0 < (l0.length : Int)
            · rw [if_pos c8] at H
              have c8b0 : decide (0 < (l0.length : Int)) = true := decide_eq_true c8
              have c8b1 : decide (0 < l0.length) = true := decide_eq_true (by omega)
              clear c8
              by_cases c9 : x6_1 < (((rd_T52 l0 0).f4).length : Int)
              · rw [if_pos c9] at H
                have c9b0 : decide (x6_1 < (((rd_T52 l0 0).f4).length : Int)) = true := decide_eq_true c9
                clear c9
                by_cases c10 : 0 ≤ ((rd_T52 l0 0).f2)
                · rw [if_pos c10] at H
                  have c10b0 := eq_true c10
                  have c10b1 : decide (0 ≤ ((rd_T52 l0 0).f2)) = true := decide_eq_true c10
                  clear c10
                  by_cases c11 : ((rd_T52 l0 0).f2) ≤ (l0.length : Int)
                  · rw [if_pos c11] at H
                    have c11b0 := eq_true c11
                    have c11b1 : decide (((rd_T52 l0 0).f2) ≤ (l0.length : Int)) = true := decide_eq_true c11
                    clear c11
                    obtain ⟨y169, hy169⟩ : ∃ y_ : List (S52), y_ = (l0.take (((rd_T52 l0 0).f2) : Int).toNat) := ⟨_, rfl⟩
                    replace H : ((testamurref08_points.f k1 y169 x6_1).bind fun bt173 => ((testamurref07_Through.f k1 bt173.1 bt173.2 0).bind fun bt179 => (if x5_1.length < 140737488355328 then (testamurref08_Join.l0 k1 l0 (x5_1 ++ [bt179.1]) (wrap64 (x6_1 + 1))) else (none)))) = some (r1, r2) := by first | (rw [hy169]; with_reducible exact H) | (have H2_ := (Option.bind_some _ _).symm.trans H; rw [hy169]; with_reducible exact H2_) | (have H2_ := (Option.bind_some _ _).symm.trans H; with_reducible exact H2_) | with_reducible exact H | (rw [hy169]; exact H) | exact H
                    have Ny169 := Aside0.mk hy169
                    clear hy169
                    replace H := Option.bind_eq_some_iff.mp H
                    obtain ⟨⟨t173, t174⟩, A120, H⟩ := H
                    replace H : ((testamurref07_Through.f k1 t173 t174 0).bind fun bt179 => (if x5_1.length < 140737488355328 then (testamurref08_Join.l0 k1 l0 (x5_1 ++ [bt179.1]) (wrap64 (x6_1 + 1))) else (none))) = some (r1, r2) := H
                    have A12 := Aside0.mk A120
                    clear A120
                    replace H := Option.bind_eq_some_iff.mp H
                    obtain ⟨⟨t179, t180⟩, A130, H⟩ := H
                    replace H : (if x5_1.length < 140737488355328 then (testamurref08_Join.l0 k1 l0 (x5_1 ++ [t179]) (wrap64 (x6_1 + 1))) else (none)) = some (r1, r2) := H
                    have A13 := Aside0.mk A130
                    clear A130
                    by_cases c14 : x5_1.length < 140737488355328
                    · rw [if_pos c14] at H
                      have LMc14 := Aside0.mk c14
                      clear c14
                      obtain ⟨y181, hy181⟩ : ∃ y_ : List Int, y_ = (x5_1 ++ [t179]) := ⟨_, rfl⟩
                      replace H : (testamurref08_Join.l0 k1 l0 y181 (wrap64 (x6_1 + 1))) = some (r1, r2) := by first | (rw [hy181]; with_reducible exact H) | (have H2_ := (Option.bind_some _ _).symm.trans H; rw [hy181]; with_reducible exact H2_) | (have H2_ := (Option.bind_some _ _).symm.trans H; with_reducible exact H2_) | with_reducible exact H | (rw [hy181]; exact H) | exact H
                      have Ny181 := Aside0.mk hy181
                      clear hy181
                      have H' := Aside0.mk H
                      clear H
                      have p167 : 0 ≤ (0 : Int) := (by omega)
                      have q167 : 0 < (l0.length : Int) := of_decide_eq_true (by first | (with_reducible assumption) | assumption)
                      obtain ⟨ad167, A167_4, c167_4, e167, hx167_0, hx167_1, hx167_2, hx167_3, hx167_4, hl167_4, hi167_4⟩ := at_T52 HR0.out 0 p167 q167
                      obtain rfl : ad166 = ad167 := (by injection e167)
                      have qi167 : (0 < l0.length) = True := eq_true (by omega)
                      (try rw [show ((0 : Int)).toNat = 0 from rfl] at hx167_0)
                      (try rw [show 0 * 5 = 0 from rfl] at hx167_0)
                      (try rw [Addr.add_zero'] at hx167_0)
                      (try rw [show ((0 : Int)).toNat = 0 from rfl] at hx167_1)
                      (try rw [show 0 * 5 = 0 from rfl] at hx167_1)
                      (try rw [Addr.add_zero'] at hx167_1)
                      (try rw [show ((0 : Int)).toNat = 0 from rfl] at hx167_2)
                      (try rw [show 0 * 5 = 0 from rfl] at hx167_2)
                      (try rw [Addr.add_zero'] at hx167_2)
                      (try rw [show ((0 : Int)).toNat = 0 from rfl] at hx167_3)
                      (try rw [show 0 * 5 = 0 from rfl] at hx167_3)
                      (try rw [Addr.add_zero'] at hx167_3)
                      (try rw [show ((0 : Int)).toNat = 0 from rfl] at hx167_4)
                      (try rw [show 0 * 5 = 0 from rfl] at hx167_4)
                      (try rw [Addr.add_zero'] at hx167_4)
                      replace hx167_0 := (HB.out.cell (World.block_lt_of_cell? w _ hx167_0)).trans hx167_0
                      replace hx167_1 := (HB.out.cell (World.block_lt_of_cell? w _ hx167_1)).trans hx167_1
                      replace hx167_2 := (HB.out.cell (World.block_lt_of_cell? w _ hx167_2)).trans hx167_2
                      replace hx167_3 := (HB.out.cell (World.block_lt_of_cell? w _ hx167_3)).trans hx167_3
                      replace hx167_4 := (HB.out.cell (World.block_lt_of_cell? w _ hx167_4)).trans hx167_4
                      have HR167_4 := Aside0.mk hi167_4
                      have HC167_4 := Aside0.mk hl167_4
                      clear hi167_4 hl167_4
                      replace p167 := eq_true p167
                      replace q167 := eq_true q167
                      have p168 : 0 ≤ (0 : Int) := (by omega)
                      have q168 : 0 < (l0.length : Int) := of_decide_eq_true (by first | (with_reducible assumption) | assumption)
                      obtain ⟨ad168, A168_4, c168_4, e168, hx168_0, hx168_1, hx168_2, hx168_3, hx168_4, hl168_4, hi168_4⟩ := at_T52 HR0.out 0 p168 q168
                      obtain rfl : ad166 = ad168 := (by injection e168)
                      have qi168 : (0 < l0.length) = True := eq_true (by omega)
                      (try rw [show ((0 : Int)).toNat = 0 from rfl] at hx168_0)
                      (try rw [show 0 * 5 = 0 from rfl] at hx168_0)
                      (try rw [Addr.add_zero'] at hx168_0)
                      (try rw [show ((0 : Int)).toNat = 0 from rfl] at hx168_1)
                      (try rw [show 0 * 5 = 0 from rfl] at hx168_1)
                      (try rw [Addr.add_zero'] at hx168_1)
                      (try rw [show ((0 : Int)).toNat = 0 from rfl] at hx168_2)
                      (try rw [show 0 * 5 = 0 from rfl] at hx168_2)
                      (try rw [Addr.add_zero'] at hx168_2)
                      (try rw [show ((0 : Int)).toNat = 0 from rfl] at hx168_3)
                      (try rw [show 0 * 5 = 0 from rfl] at hx168_3)
                      (try rw [Addr.add_zero'] at hx168_3)
                      (try rw [show ((0 : Int)).toNat = 0 from rfl] at hx168_4)
                      (try rw [show 0 * 5 = 0 from rfl] at hx168_4)
                      (try rw [Addr.add_zero'] at hx168_4)
                      replace hx168_0 := (HB.out.cell (World.block_lt_of_cell? w _ hx168_0)).trans hx168_0
                      replace hx168_1 := (HB.out.cell (World.block_lt_of_cell? w _ hx168_1)).trans hx168_1
                      replace hx168_2 := (HB.out.cell (World.block_lt_of_cell? w _ hx168_2)).trans hx168_2
                      replace hx168_3 := (HB.out.cell (World.block_lt_of_cell? w _ hx168_3)).trans hx168_3
                      replace hx168_4 := (HB.out.cell (World.block_lt_of_cell? w _ hx168_4)).trans hx168_4
                      have HR168_4 := Aside0.mk hi168_4
                      have HC168_4 := Aside0.mk hl168_4
                      clear hi168_4 hl168_4
                      replace p168 := eq_true p168
                      replace q168 := eq_true q168
                      have ea_ := Option.some.inj (hx167_4.symm.trans hx168_4)
                      injection ea_ with ea_ en_ ec_
                      subst ea_
                      subst ec_
                      clear en_
                      have q15 : (((rd_T52 l0 0).f2) : Int) ≤ ((l0.length : Int) : Int) := of_decide_eq_true (by first | (with_reducible assumption) | assumption)
                      obtain ⟨i015, hi015, _, hsz15, _⟩ := info_parts info52
                      have hroom15 : l0.length ≤ c0 := HC0.out
                      have hC15 : Kd.C k52 _ (some ad166) l0.length l0 := HR0.out
                      have hcut15 := cut_to (P := Try.prog) 37 52 .i64 Try.underlying37 hi015 (some ad166) l0.length c0 ((rd_T52 l0 0).f2) (of_decide_eq_true (by first | (with_reducible assumption) | assumption)) q15 hroom15
                      have hr15 := Kd.C_take (m := (((rd_T52 l0 0).f2) : Int).toNat) hC15 (by omega)
                      have hy15 : y169.length = (((rd_T52 l0 0).f2) : Int).toNat := (by rw [Ny169.out, List.length_take]; omega)
                      rw [← Ny169.out] at hr15
                      rw [← hy15] at hcut15
                      have HR172 := Aside0.mk hr15
                      have HC172 := Aside0.mk (show y169.length ≤ c0 from by omega)
                      clear hr15 hC15 hroom15 hi015 hsz15
                      have KY15 := Aside0.mk hy15
                      clear hy15
                      replace q15 := eq_true q15
                      go_wp2_with (first | ((with_reducible refine gate_callee (f := 51) rfl ?_); refine goesL_ (some 40) rfl rfl Try.func51 (by kernel_rfl) rfl #[.slice (some ad166) y169.length c0, .int .i64 x6_1] rfl (by (try simp only [List.map_toArray, List.map_cons, List.map_nil]); first | done | rfl | (simp only [List.length_drop, List.length_take]; rfl)) ?_; (with_reducible refine (testamurref08_points.calls k1 _ _ y169 x6_1 t173 t174 _ ?side1 ?side2 A12.out).mono ?_); (case side1 => repeat (first | exact (Kd.C_below HR172.out HB.out) | (with_reducible refine Kd.C_alloc ?_ _) | (with_reducible refine Kd.C_drewN ?_ _) | (with_reducible refine Kd.C_drew ?_))); (case side2 => exact HC172.out); rintro e w16 ⟨v175, v177, rfl, ho0, ho1, hb⟩; refine ⟨_, rfl, ?_⟩; have n0_ := Aside0.mk (Kd.R_mono (Kd.R_told (Kd.R_told (Kd.R_old (by (with_reducible repeat (first | apply Kd.R_alloc | apply Kd.R_drewN | apply Kd.R_drew)); exact HO_5.out) hb) (Kd.R_base ho0)) (Kd.R_base ho1)) (fun _ h_ => h_.1)); have n1_ := Aside0.mk (Kd.R_lower (Kd.R_new' ho0 (Kd.R_lt (by (with_reducible repeat (first | apply Kd.R_alloc | apply Kd.R_drewN | apply Kd.R_drew)); exact HO_5.out))) (below_size (by repeat (first | (with_reducible first | exact HB.out | apply below_alloc | apply pw_below_drewN | apply below_drew1) | exact HB.out)))); have n2_ := Aside0.mk (Kd.R_lower (Kd.R_new' ho1 (Kd.R_lt (by (with_reducible repeat (first | apply Kd.R_alloc | apply Kd.R_drewN | apply Kd.R_drew)); exact HO_5.out))) (below_size (by repeat (first | (with_reducible first | exact HB.out | apply below_alloc | apply pw_below_drewN | apply below_drew1) | exact HB.out)))); have n3_ := Aside0.mk (below_step (by repeat (first | (with_reducible first | exact HB.out | apply below_alloc | apply pw_below_drewN | apply below_drew1) | exact HB.out)) hb); clear HO_5; clear HB; have HO_5 := n0_; have HO176 := n1_; have HO178 := n2_; have HB := n3_; clear n0_ n1_ n2_ n3_; (try clear hb); (try clear hb2); (try clear hk); (try clear hi); (try clear ho0); (try clear ho1); obtain ⟨Ao17, co17, eo17⟩ := Kd.R_slice HO176.out; subst eo17; obtain ⟨Ao18, co18, eo18⟩ := Kd.R_slice HO178.out; subst eo18) | ((with_reducible refine gate_callee (f := 52) rfl ?_); refine goesL_ (some 46) rfl rfl Try.func52 (by kernel_rfl) rfl #[.slice Ao17 t173.length co17, .slice Ao18 t174.length co18, .int .u8 0] rfl (by (try simp only [List.map_toArray, List.map_cons, List.map_nil]); first | done | rfl | (simp only [List.length_drop, List.length_take]; rfl)) ?_; (with_reducible refine (testamurref07_Through.calls k1 _ _ t173 _ _ t174 0 t179 t180 _ ?side1 ?side2 ?side3 ?side4 A13.out).mono ?_); (case side1 => repeat (first | exact (Kd.R_reads' HO176.out).2.2 | (with_reducible refine Kd.C_alloc ?_ _) | (with_reducible refine Kd.C_drewN ?_ _) | (with_reducible refine Kd.C_drew ?_))); (case side2 => exact (Kd.R_reads' HO176.out).2.1); (case side3 => repeat (first | exact (Kd.R_reads' HO178.out).2.2 | (with_reducible refine Kd.C_alloc ?_ _) | (with_reducible refine Kd.C_drewN ?_ _) | (with_reducible refine Kd.C_drew ?_))); (case side4 => exact (Kd.R_reads' HO178.out).2.1); rintro e w19 ⟨rfl, hb⟩; refine ⟨_, rfl, ?_⟩; have n0_ := Aside0.mk (Kd.R_below (by (with_reducible repeat (first | apply Kd.R_alloc | apply Kd.R_drewN | apply Kd.R_drew)); exact HO_5.out) hb); have n1_ := Aside0.mk (Kd.R_below (by (with_reducible repeat (first | apply Kd.R_alloc | apply Kd.R_drewN | apply Kd.R_drew)); exact HO176.out) hb); have n2_ := Aside0.mk (Kd.R_below (by (with_reducible repeat (first | apply Kd.R_alloc | apply Kd.R_drewN | apply Kd.R_drew)); exact HO178.out) hb); have n3_ := Aside0.mk (below_step (by repeat (first | (with_reducible first | exact HB.out | apply below_alloc | apply pw_below_drewN | apply below_drew1) | exact HB.out)) hb); clear HO_5; clear HO176; clear HO178; clear HB; have HO_5 := n0_; have HO176 := n1_; have HO178 := n2_; have HB := n3_; clear n0_ n1_ n2_ n3_; (try clear hb); (try clear hb2); (try clear hk); (try clear hi)) | ((with_reducible refine gate_builtin (b := .append) (xs := #[.tmp 49, .tmp 51]) rfl ?_); at_builtin; refine Kd.R_append (Kd.int .u8) (w0 := w) w.heap.size rfl (.tmp 49) (.tmp 51) 30 5 (.int .u8 0) 1 rfl Try.underlying30 info5 rfl (by decide) (by omega) u5 x5_1 t179 [.int .u8 t179] (fun k_ => some k_ ≠ (.slice Ao17 t173.length co17 : Value).ownBlock ∧ some k_ ≠ (.slice Ao18 t174.length co18 : Value).ownBlock) (fun _ => False) rfl rfl ?aP (fun _ hk => hk.elim) ?aF ?aO ?aB ?aS ?aL ?_; (case aP => exact rfl); (case aB => exact (by repeat (first | (with_reducible first | exact HB.out | apply below_alloc | apply pw_below_drewN | apply below_drew1) | exact HB.out))); (case aF => exact (fun k_ hk => ⟨Kd.fresh' (Kd.R_lt (by (with_reducible repeat (first | apply Kd.R_alloc | apply Kd.R_drewN | apply Kd.R_drew)); exact HO176.out)) k_ hk, Kd.fresh' (Kd.R_lt (by (with_reducible repeat (first | apply Kd.R_alloc | apply Kd.R_drewN | apply Kd.R_drew)); exact HO178.out)) k_ hk⟩)); (case aO => exact (by (with_reducible repeat (first | apply Kd.R_alloc | apply Kd.R_drewN | apply Kd.R_drew)); exact Kd.R_mono HO_5.out (fun _ hk => ⟨hk.1.2, hk.2⟩))); (case aS => exact (below_size (by repeat (first | (with_reducible first | exact HB.out | apply below_alloc | apply pw_below_drewN | apply below_drew1) | exact HB.out)))); (case aL => have := LMc14.out; omega); intro v182 w20 ho hb hg hat; rw [← Ny181.out] at ho; have n0_ := Aside0.mk (Kd.R_after (ok := (fun k_ => some k_ ≠ (.slice Ao18 t174.length co18 : Value).ownBlock)) (by (with_reducible repeat (first | apply Kd.R_alloc | apply Kd.R_drewN | apply Kd.R_drew)); exact HO176.out) hg hat); have n1_ := Aside0.mk (Kd.R_after (ok := (fun k_ => some k_ ≠ (.slice Ao17 t173.length co17 : Value).ownBlock)) (by (with_reducible repeat (first | apply Kd.R_alloc | apply Kd.R_drewN | apply Kd.R_drew)); exact HO178.out) hg hat); have n2_ := Aside0.mk (hb); have n3_ := Aside0.mk (ho); clear HO176; clear HO178; clear HB; clear HO_5; have HO176 := n0_; have HO178 := n1_; have HB := n2_; have HO183 := n3_; clear n0_ n1_ n2_ n3_; clear ho hb hg hat))
                      go_roundg k1
                      case measure => have := HK1.out; omega
                      case rel => exact ⟨(y181), (wrap64 (x6_1 + 1)), (by first | rfl | (simp; done) | (simp [*]; done)), H', ⟨by have := HK1.out; omega⟩, ⟨by (with_reducible repeat (first | apply Kd.R_alloc | apply Kd.R_drewN | apply Kd.R_drew)); exact Kd.R_mono HO183.out (fun _ hk => trivial)⟩, ⟨by repeat (first | (with_reducible first | exact HB.out | apply below_alloc | apply pw_below_drewN | apply below_drew1) | exact HB.out)⟩⟩
                    · rw [if_neg c14] at H
                      exact absurd H (by simp)
                  · rw [if_neg c11] at H
                    exact absurd H (by simp)
                · rw [if_neg c10] at H
                  exact absurd H (by simp)
              · rw [if_neg c9] at H
                have c9b0 : decide (x6_1 < (((rd_T52 l0 0).f4).length : Int)) = false := decide_eq_false c9
                clear c9
                simp only [Option.some.injEq, Prod.mk.injEq] at H
                obtain ⟨rfl, rfl⟩ := H
                have p167 : 0 ≤ (0 : Int) := (by omega)
                have q167 : 0 < (l0.length : Int) := of_decide_eq_true (by first | (with_reducible assumption) | assumption)
                obtain ⟨ad167, A167_4, c167_4, e167, hx167_0, hx167_1, hx167_2, hx167_3, hx167_4, hl167_4, hi167_4⟩ := at_T52 HR0.out 0 p167 q167
                obtain rfl : ad166 = ad167 := (by injection e167)
                have qi167 : (0 < l0.length) = True := eq_true (by omega)
                (try rw [show ((0 : Int)).toNat = 0 from rfl] at hx167_0)
                (try rw [show 0 * 5 = 0 from rfl] at hx167_0)
                (try rw [Addr.add_zero'] at hx167_0)
                (try rw [show ((0 : Int)).toNat = 0 from rfl] at hx167_1)
                (try rw [show 0 * 5 = 0 from rfl] at hx167_1)
                (try rw [Addr.add_zero'] at hx167_1)
                (try rw [show ((0 : Int)).toNat = 0 from rfl] at hx167_2)
                (try rw [show 0 * 5 = 0 from rfl] at hx167_2)
                (try rw [Addr.add_zero'] at hx167_2)
                (try rw [show ((0 : Int)).toNat = 0 from rfl] at hx167_3)
                (try rw [show 0 * 5 = 0 from rfl] at hx167_3)
                (try rw [Addr.add_zero'] at hx167_3)
                (try rw [show ((0 : Int)).toNat = 0 from rfl] at hx167_4)
                (try rw [show 0 * 5 = 0 from rfl] at hx167_4)
                (try rw [Addr.add_zero'] at hx167_4)
                replace hx167_0 := (HB.out.cell (World.block_lt_of_cell? w _ hx167_0)).trans hx167_0
                replace hx167_1 := (HB.out.cell (World.block_lt_of_cell? w _ hx167_1)).trans hx167_1
                replace hx167_2 := (HB.out.cell (World.block_lt_of_cell? w _ hx167_2)).trans hx167_2
                replace hx167_3 := (HB.out.cell (World.block_lt_of_cell? w _ hx167_3)).trans hx167_3
                replace hx167_4 := (HB.out.cell (World.block_lt_of_cell? w _ hx167_4)).trans hx167_4
                have HR167_4 := Aside0.mk hi167_4
                have HC167_4 := Aside0.mk hl167_4
                clear hi167_4 hl167_4
                replace p167 := eq_true p167
                replace q167 := eq_true q167
                go_wp2
                go_ret2
                exact ⟨_, by first | rfl | (simp [errW_none, errW_some] <;> rfl) | (simp [*, errW_none, errW_some] <;> rfl), by (with_reducible repeat (first | apply Kd.R_alloc | apply Kd.R_drewN | apply Kd.R_drew)); exact HO_5.out, by repeat (first | (with_reducible first | exact HB.out | apply below_alloc | apply pw_below_drewN | apply below_drew1) | exact HB.out)⟩
            · rw [if_neg c8] at H
              exact absurd H (by simp)
    · rw [if_neg c4] at H
      exact absurd H (by simp)
  · rw [if_neg c3] at H
    have c3b0 : (t165 == 0) = false := beq_eq_false_iff_ne.mpr c3
    have c3b1 : (t165 != 0) = true := bne_iff_ne.mpr c3
    simp only [Option.some.injEq, Prod.mk.injEq] at H
    obtain ⟨rfl, rfl⟩ := H
    go_enter Try.func31, Try.ntmps31
    go_wp2_with (first | ((with_reducible refine gate_callee (f := 28) rfl ?_); refine goesL_ (some 12) rfl rfl Try.func28 (by kernel_rfl) rfl #[.slice A0 l0.length c0] rfl (by (try simp only [List.map_toArray, List.map_cons, List.map_nil]); first | done | rfl | (simp only [List.length_drop, List.length_take]; rfl)) ?_; (with_reducible refine (testamurref08_Check.calls k _ _ l0 t165 _ ?side1 ?side2 A2.out).mono ?_); (case side1 => repeat (first | exact HR0.out | (with_reducible refine Kd.C_alloc ?_ _) | (with_reducible refine Kd.C_drewN ?_ _) | (with_reducible refine Kd.C_drew ?_))); (case side2 => exact HC0.out); rintro e w21 ⟨rfl, hb⟩; refine ⟨_, rfl, ?_⟩; have n0_ := Aside0.mk (below_step (by repeat (first | (with_reducible first | exact HB.out | apply below_alloc | apply pw_below_drewN | apply below_drew1) | exact HB.out)) hb); clear HB; have HB := n0_; clear n0_; (try clear hb); (try clear hb2); (try clear hk); (try clear hi)))
    go_ret2
    exact ⟨_, by first | rfl | (simp [errW_none, errW_some] <;> rfl) | (simp [*, errW_none, errW_some] <;> rfl), by first | exact Kd.R_nil _ _ _ _ _ | exact Kd.N_nil _ _ _ _ _ | exact Kd.V_nil _ _ _ _ _ | exact Kd.Q_nil _ _ _ _ _ | exact Kd.S_nil _ _ _ _ _, by repeat (first | (with_reducible first | exact HB.out | apply below_alloc | apply pw_below_drewN | apply below_drew1) | exact HB.out)⟩
end Go.Proofs.Ytillfbohengpaaa.PA
end
section
set_option linter.unusedVariables false
set_option linter.unusedSimpArgs false
namespace Go.Proofs.Ytillfbohengpaaa
open Go.RowKit Gf Go.Sort Go.Proofs.YtillfbohengpaaaW.PrintWords PA
attribute [local go_sem] bits_gx
set_option maxRecDepth 100000 in
set_option maxHeartbeats 2000000 in
theorem times_u (A : Option Addr) (n c : Nat) (l : List G) (a b : G) (w : World) (h : RL gv w A n l) (hn : n ≤ 100000) : Calls Try.prog 59 #[.slice A n c, gv a, gv b] w fun e w' => ∃ v, e = .returned v ∧ OwnL gv 5 w' w.heap.size v (n + 1) (lin l a b) ∧ Below w.heap.size w w' := by
  obtain ⟨i0, hi, hz0, hz1, hz2⟩ := info_parts Try.info5
  have hll := Lib.hid h.1
  go_enter Try.func59, Try.ntmps59
  go_wp2_with (at_make; refine wpList_mk (enc := gv) (base := w.heap.size) rfl _ _ 30 rfl 0#8 (n + 1) slice_u8 hi hz0 hz1 hz2 rfl _ _ _ _ rfl rfl (by omega) (by omega) (by omega) (by omega) (Nat.le_refl _) ?_; intro w1 hx hb1)
  rw [show List.replicate (n + 1) 0#8 = linTo l a b 0 by rw [linTo_zero, hll.out]] at hx
  go_loopw [8] (fun si wr => ∃ (j : Nat), j ≤ n ∧ si = .int .i64 j ∧ OwnL gv 5 wr w.heap.size (.slice (some ⟨w.heap.size, 0, none⟩) (n + 1) (n + 1)) (n + 1) (linTo l a b j) ∧ Below w.heap.size w wr) (fun si _ => n - (intOf si).toNat)
  case atStart => exact ⟨0, by omega, rfl, hx, hb1⟩
  case round =>
    obtain ⟨j, hj, rfl, hx6, hB6⟩ := hrel
    clear hx hb1
    by_cases hjlt : j < n
    · obtain ⟨bl, ol, rfl, hbl, hcl⟩ := h.atg j hjlt
      have hcl6 := (hB6.cell (p := ⟨bl, ol + j, none⟩) hbl).trans hcl
      have hcn := hx6.cellg j (by omega)
      generalize hT : g (linTo l a b j) j = T at hcn
      have HT := Lib.hid hT.symm; clear hT
      generalize hZ : g l j = Z at hcl hcl6
      have HZ := Lib.hid hZ.symm; clear hZ
      go_wp2_with fail
      have hcn' : ∀ (dr : Nat) (os : Array Obj), (grow (redrawn wr dr) os).cell? ⟨w.heap.size, j, none⟩ = some (gv T) := cell_regrown hcn
      have hcl' : ∀ (dr : Nat) (os : Array Obj), (grow (redrawn wr dr) os).cell? ⟨bl, ol + j, none⟩ = some (gv Z) := cell_regrown hcl6
      have hj1 : j < n + 1 := by omega
      have hj2 : (j : Int) < (n : Int) := by omega
      have hj3 : (j : Int) < (n : Int) + 1 := by omega
      have hj4 : (j : Int) + 1 < (n : Int) + 1 := by omega
      have hj5 : j + 1 < n + 1 := by omega
      refine wp_region_qt 13 mixed (by kernel_rfl) (by decide) (by kernel_rfl) ?_
      repeat (quiet_step ((go_at_call 19; exact Calls.regrown_of (rmul_u _ _ _))))
      refine wpQuiet_nil ?_
      intro w9 hb9
      have hgw := (hx6.lt _ rfl).2
      have hB9 := bthenB hB6 hB6.size hb9
      have hx9 := hx6.below hb9
      have hcn9 : w9.cell? ⟨w.heap.size, j, none⟩ = some (gv T) := (hb9.cell (p := ⟨w.heap.size, j, none⟩) hgw).trans hcn
      have hfr := hx9.free j
      clear hcn' hcl' hcn hcl6
      go_wp2_with fail
      have hx10 := hx9.set j (gx T (mul Z a))
      have hmid : (linTo l a b j).set j (gx T (mul Z a)) = linMid l a b j := by rw [HT.out, HZ.out]; rfl
      rw [hmid] at hx10
      have hB10 : Below w.heap.size w (w9.setCell ⟨w.heap.size, j, none⟩ (gv (gx T (mul Z a)))) := hB9.setCell (by simp) _
      generalize w9.setCell ⟨w.heap.size, j, none⟩ (gv (gx T (mul Z a))) = w10 at *
      have hcl10 := (hB10.cell (p := ⟨bl, ol + j, none⟩) hbl).trans hcl
      have hcm := hx10.cellg (j + 1) (by omega)
      generalize hV : g (linMid l a b j) (j + 1) = V at hcm
      have HV := Lib.hid hV.symm; clear hV
      have HM := Lib.hid hmid
      clear hmid hcn9 hfr hx9 hx6 hcl
      have hcm' : ∀ (dr : Nat) (os : Array Obj), (grow (redrawn w10 dr) os).cell? ⟨w.heap.size, j + 1, none⟩ = some (gv V) := cell_regrown hcm
      have hcl' : ∀ (dr : Nat) (os : Array Obj), (grow (redrawn w10 dr) os).cell? ⟨bl, ol + j, none⟩ = some (gv Z) := cell_regrown hcl10
      have hq2 : (0 : Int) ≤ (j : Int) + 1 := by omega
      have hq3 : ((j : Int) + 1).toNat = j + 1 := by omega
      have hq1 : IntKind.i64.wrap ((j : Int) + 1) = (j : Int) + 1 := IntWalk.i64_in _ (by omega)
      refine wp_region_qt 15 mixed (by kernel_rfl) (by decide) (by kernel_rfl) ?_
      repeat (quiet_step ((go_at_call 19; exact Calls.regrown_of (rmul_u _ _ _))))
      refine wpQuiet_nil ?_
      intro w11 hb11
      clear hq1 hq3
      have hgw2 := (hx10.lt _ rfl).2
      have hB11 := bthenB hB10 hB10.size hb11
      have hx11 := hx10.below hb11
      have hcm11 : w11.cell? ⟨w.heap.size, j + 1, none⟩ = some (gv V) := (hb11.cell (p := ⟨w.heap.size, j + 1, none⟩) hgw2).trans hcm
      have hfr2 := hx11.free (j + 1)
      clear hcm' hcl' hcm hcl10
      go_wp2_with fail
      refine ⟨⟨j + 1, by omega, by go_num, ?_, hB11.setCell (by simp) _⟩, by simp [intOf]; omega⟩
      have hst := linTo_set l a b j (by rw [hll.out]; exact hjlt)
      rw [← HV.out, ← HZ.out] at hst
      rw [← hst]
      exact hx11.set (j + 1) _
    · obtain rfl : j = n := by omega
      have hla := linTo_all l a b
      rw [hll.out] at hla
      rw [hla] at hx6
      clear hla
      go_wp2_with fail
      go_ret
      exact ⟨_, rfl, hx6, hB6⟩
end Go.Proofs.Ytillfbohengpaaa
end
section
namespace Go.Proofs.Ytillfbohengpaaa.PA
open Go.RowKit Go.Proofs.YtillfbohengpaaaW.PrintWords Go.Proofs.YtillfbohengpaaaW.PrintLast Go.Proofs.YtillfbohengpaaaW.PrintMore
attribute [local go_sem] max2_int min2_int max_two min_two max_three min_three max_four min_four   -- for this text's walks alone
set_option linter.unusedVariables false
set_option linter.unusedSimpArgs false
def testamurref07_times.f (l0 : List Int) (a1 a2 : Int) : Option (List Int) := if isB l0 = true ∧ okB a1 = true ∧ okB a2 = true ∧ l0.length ≤ 100000 then some ((Gf.lin (l0.map gI) (gI a1) (gI a2)).map tI) else none
theorem testamurref07_times.calls (A0 : Option Addr) (c0 : Nat) (l0 : List Int) (a1 a2 : Int) (r : List Int) (w : World) (hr0 : Kd.C (Kd.int .u8) w A0 l0.length l0) (hc0 : l0.length ≤ c0) (h : testamurref07_times.f l0 a1 a2 = some r) :
    Calls Try.prog 59 #[.slice A0 l0.length c0, .int .u8 a1, .int .u8 a2] w fun e w' => ∃ v0_ : Value, e = .returned v0_ ∧ Kd.R (Kd.int .u8) 5 w' w.heap.size (fun _ => True) v0_ r ∧ Below w.heap.size w w' := by
  unfold testamurref07_times.f at h
  split at h
  case isFalse => cases h
  rename_i ho
  obtain ⟨h0, h1, h2, hn⟩ := ho
  obtain ⟨l, rfl⟩ := ex_isB h0
  simp only [okB, Bool.and_eq_true, decide_eq_true_eq] at h1 h2
  rw [gI_map] at h
  injection h with h
  subst h
  have e1 := tI_gI a1 h1.1 h1.2
  have e2 := tI_gI a2 h2.1 h2.2
  generalize gI a1 = x at *
  generalize gI a2 = y at *
  subst e1 e2
  refine (times_u A0 _ c0 l x y w (rl_of_C hr0) hn).mono ?_
  rintro e w' ⟨v, rfl, hs, hb⟩
  exact ⟨v, rfl, R_of_own hs (fun _ _ => trivial), hb⟩
end Go.Proofs.Ytillfbohengpaaa.PA
end
section
namespace Go.Proofs.Ytillfbohengpaaa.PA
open Go.RowKit Go.Proofs.YtillfbohengpaaaW.PrintWords Go.Proofs.YtillfbohengpaaaW.PrintLast Go.Proofs.YtillfbohengpaaaW.PrintMore
attribute [local go_sem] max2_int min2_int max_two min_two max_three min_three max_four min_four   -- for this text's walks alone
set_option linter.unusedVariables false
set_option linter.unusedSimpArgs false
mutual
def testamurref07_Coefficients.l0 : Nat → List Int → List Int → List Int → Int → Option (List Int × Int)
  | 0, _, _, _, _ => none
  | k + 1, x0, x1, x6, x7 => if x7 < (x0.length : Int) then (if 0 ≤ x7 then (if x7 < (x1.length : Int) then (testamurref07_Coefficients.l1 k x0 x1 x6 x7 (([rd x1 x7] : List Int)) 0) else (none)) else (none)) else (some (x6, 0))
def testamurref07_Coefficients.l1 : Nat → List Int → List Int → List Int → Int → List Int → Int → Option (List Int × Int)
  | 0, _, _, _, _, _, _ => none
  | k + 1, x0, x1, x6, x7, x8, x9 => if x9 < (x0.length : Int) then (if x9 = x7 then (testamurref07_Coefficients.l1 k x0 x1 x6 x7 x8 (wrap64 (x9 + 1))) else (if 0 ≤ x7 then (if x7 < (x0.length : Int) then (if 0 ≤ x9 then ((testamurref07_over.f 1 (Go.bits .xor .u8 (rd x0 x7) (rd x0 x9))).bind fun t252 => ((testamurref07_Mul.f t252 (rd x0 x9)).bind fun t254 => ((testamurref07_times.f x8 t254 t252).bind fun t255 => (testamurref07_Coefficients.l1 k x0 x1 x6 x7 t255 (wrap64 (x9 + 1)))))) else (none)) else (none)) else (none))) else (testamurref07_Coefficients.l2 k x0 x1 x6 x7 x8 0)
def testamurref07_Coefficients.l2 : Nat → List Int → List Int → List Int → Int → List Int → Int → Option (List Int × Int)
  | 0, _, _, _, _, _, _ => none
  | k + 1, x0, x1, x6, x7, x8, x11 => if x11 < (x8.length : Int) then (if 0 ≤ x11 then (if x11 < (x6.length : Int) then (testamurref07_Coefficients.l2 k x0 x1 (x6.set (x11 : Int).toNat (Go.bits .xor .u8 (rd x6 x11) (rd x8 x11))) x7 x8 (wrap64 (x11 + 1))) else (none)) else (none)) else (testamurref07_Coefficients.l0 k x0 x1 x6 (wrap64 (x7 + 1)))
end
def testamurref07_Coefficients.f (k : Nat) (l0 : List Int) (l1 : List Int) : Option (List Int × Int) := (testamurref07_Points.f k l0 l1).bind fun t242 => (if t242 = true then (if 0 ≤ (l0.length : Int) then (if ((l0.length : Int) : Int).toNat ≤ 281474976710656 then (testamurref07_Coefficients.l0 k l0 l1 (List.replicate ((l0.length : Int) : Int).toNat 0) 0) else (none)) else (none)) else (some (([] : List Int), 1)))
theorem testamurref07_Coefficients.mono_l : ∀ k, (∀ y0 y1 y2 y3, LeO (testamurref07_Coefficients.l0 k y0 y1 y2 y3) (testamurref07_Coefficients.l0 (k + 1) y0 y1 y2 y3)) ∧ (∀ y0 y1 y2 y3 y4 y5, LeO (testamurref07_Coefficients.l1 k y0 y1 y2 y3 y4 y5) (testamurref07_Coefficients.l1 (k + 1) y0 y1 y2 y3 y4 y5)) ∧ (∀ y0 y1 y2 y3 y4 y5, LeO (testamurref07_Coefficients.l2 k y0 y1 y2 y3 y4 y5) (testamurref07_Coefficients.l2 (k + 1) y0 y1 y2 y3 y4 y5))
  | 0 => ⟨fun _ _ _ _ r h => by simp [testamurref07_Coefficients.l0] at h, fun _ _ _ _ _ _ r h => by simp [testamurref07_Coefficients.l1] at h, fun _ _ _ _ _ _ r h => by simp [testamurref07_Coefficients.l2] at h⟩
  | k + 1 => by
    obtain ⟨ih0, ih1, ih2⟩ := testamurref07_Coefficients.mono_l k
    refine ⟨?_, ?_, ?_⟩
    · intro y0 y1 y2 y3
      unfold testamurref07_Coefficients.l0
      repeat' first
      | (with_reducible exact ih0 _ _ _ _)
      | (with_reducible exact ih1 _ _ _ _ _ _)
      | (with_reducible exact ih2 _ _ _ _ _ _)
      | (with_reducible exact testamurref07_Points.mono _ _ _)
      | (with_reducible exact LeO.refl _)
      | (with_reducible exact LeO.none _)
      | (with_reducible refine LeO.ite ?_ ?_)
      | (with_reducible refine LeO.bind ?_ (fun _ => ?_))
      | exact ih0 _ _ _ _
      | exact ih1 _ _ _ _ _ _
      | exact ih2 _ _ _ _ _ _
      | exact testamurref07_Points.mono _ _ _
      | exact LeO.none _
      | refine LeO.ite ?_ ?_
      | refine LeO.bind ?_ (fun _ => ?_)
    · intro y0 y1 y2 y3 y4 y5
      unfold testamurref07_Coefficients.l1
      repeat' first
      | (with_reducible exact ih0 _ _ _ _)
      | (with_reducible exact ih1 _ _ _ _ _ _)
      | (with_reducible exact ih2 _ _ _ _ _ _)
      | (with_reducible exact testamurref07_Points.mono _ _ _)
      | (with_reducible exact LeO.refl _)
      | (with_reducible exact LeO.none _)
      | (with_reducible refine LeO.ite ?_ ?_)
      | (with_reducible refine LeO.bind ?_ (fun _ => ?_))
      | exact ih0 _ _ _ _
      | exact ih1 _ _ _ _ _ _
      | exact ih2 _ _ _ _ _ _
      | exact testamurref07_Points.mono _ _ _
      | exact LeO.none _
      | refine LeO.ite ?_ ?_
      | refine LeO.bind ?_ (fun _ => ?_)
    · intro y0 y1 y2 y3 y4 y5
      unfold testamurref07_Coefficients.l2
      repeat' first
      | (with_reducible exact ih0 _ _ _ _)
      | (with_reducible exact ih1 _ _ _ _ _ _)
      | (with_reducible exact ih2 _ _ _ _ _ _)
      | (with_reducible exact testamurref07_Points.mono _ _ _)
      | (with_reducible exact LeO.refl _)
      | (with_reducible exact LeO.none _)
      | (with_reducible refine LeO.ite ?_ ?_)
      | (with_reducible refine LeO.bind ?_ (fun _ => ?_))
      | exact ih0 _ _ _ _
      | exact ih1 _ _ _ _ _ _
      | exact ih2 _ _ _ _ _ _
      | exact testamurref07_Points.mono _ _ _
      | exact LeO.none _
      | refine LeO.ite ?_ ?_
      | refine LeO.bind ?_ (fun _ => ?_)
theorem testamurref07_Coefficients.mono : ∀ a0 a1 k, LeO (testamurref07_Coefficients.f k a0 a1) (testamurref07_Coefficients.f (k + 1) a0 a1) := by
  intro a0 a1 k
  obtain ⟨ih0, ih1, ih2⟩ := testamurref07_Coefficients.mono_l k
  unfold testamurref07_Coefficients.f
  repeat' first
      | (with_reducible exact ih0 _ _ _ _)
      | (with_reducible exact ih1 _ _ _ _ _ _)
      | (with_reducible exact ih2 _ _ _ _ _ _)
      | (with_reducible exact testamurref07_Points.mono _ _ _)
      | (with_reducible exact LeO.refl _)
      | (with_reducible exact LeO.none _)
      | (with_reducible refine LeO.ite ?_ ?_)
      | (with_reducible refine LeO.bind ?_ (fun _ => ?_))
      | exact ih0 _ _ _ _
      | exact ih1 _ _ _ _ _ _
      | exact ih2 _ _ _ _ _ _
      | exact testamurref07_Points.mono _ _ _
      | exact LeO.none _
      | refine LeO.ite ?_ ?_
      | refine LeO.bind ?_ (fun _ => ?_)
def testamurref07_Coefficients.T12 : Bool × List (List Nat × List Nat) := (true, [([], []), ([], []), ([0, 1], [0, 1]), ([2], [2]), ([], []), ([], []), ([4, 5], [4, 5]), ([6], [6]), ([3, 7], [3, 7]), ([8], [8]), ([9, 9, 0, 1, 2, 3, 4, 5, 6, 7, 8, 9], [9])])
def testamurref07_Coefficients.B12 : List Nat := [0, 0, 3, 7, 0, 0, 48, 112, 255, 511, 1023]
theorem testamurref07_Coefficients.tab12 : rtab .any (opsOf Try.f53 12) = testamurref07_Coefficients.T12 := by kernel_rfl
theorem testamurref07_Coefficients.bits12 : waitsOk testamurref07_Coefficients.T12.2 testamurref07_Coefficients.B12 = true := by kernel_rfl
def testamurref07_Coefficients.T17 : Bool × List (List Nat × List Nat) := (true, [([], []), ([], []), ([], []), ([], []), ([2, 3], [2, 3]), ([4], [4]), ([], []), ([], []), ([6, 7], [6, 7]), ([8], [8]), ([5, 9], [5, 9]), ([0, 1, 0, 1, 2, 3, 4, 5, 6, 7, 8, 9, 10], [0, 1]), ([11, 10, 0, 1, 2, 3, 4, 5, 6, 7, 8, 9, 10], [10, 11])])
def testamurref07_Coefficients.B17 : List Nat := [0, 0, 0, 0, 12, 28, 0, 0, 192, 448, 1020, 2047, 4095]
theorem testamurref07_Coefficients.tab17 : rtab .any (opsOf Try.f53 17) = testamurref07_Coefficients.T17 := by kernel_rfl
theorem testamurref07_Coefficients.bits17 : waitsOk testamurref07_Coefficients.T17.2 testamurref07_Coefficients.B17 = true := by kernel_rfl
set_option maxHeartbeats 8000000 in
set_option maxRecDepth 100000 in
theorem testamurref07_Coefficients.calls (k : Nat) (A0 : Option Addr) (c0 : Nat) (l0 : List Int) (A1 : Option Addr) (c1 : Nat) (l1 : List Int) (r1 : List Int) (r2 : Int) (w : World) (hr0 : Kd.C (Kd.int .u8) w A0 l0.length l0) (hc0 : l0.length ≤ c0) (hr1 : Kd.C (Kd.int .u8) w A1 l1.length l1) (hc1 : l1.length ≤ c1) (h : testamurref07_Coefficients.f k l0 l1 = some (r1, r2)) :
    Calls Try.prog 53 #[.slice A0 l0.length c0, .slice A1 l1.length c1] w fun e w' => ∃ v0_ : Value, e = .returned (.tuple #[v0_, .int .i64 r2]) ∧ Kd.R (Kd.int .u8) 5 w' w.heap.size (fun _ => True) v0_ r1 ∧ Below w.heap.size w w' := by
  have HR0 := Aside0.mk hr0
  have HC0 := Aside0.mk hc0
  clear hr0 hc0
  have HR1 := Aside0.mk hr1
  have HC1 := Aside0.mk hc1
  clear hr1 hc1
  have HB := Aside0.mk (Below.refl w.heap.size w)
  have H : ((testamurref07_Points.f k l0 l1).bind fun t242 => (if t242 = true then (if 0 ≤ (l0.length : Int) then (if ((l0.length : Int) : Int).toNat ≤ 281474976710656 then (testamurref07_Coefficients.l0 k l0 l1 (List.replicate ((l0.length : Int) : Int).toNat 0) 0) else (none)) else (none)) else (some (([] : List Int), 1)))) = some (r1, r2) := h
  clear h
  replace H := Option.bind_eq_some_iff.mp H
  obtain ⟨t242, A30, H⟩ := H
  replace H : (if t242 = true then (if 0 ≤ (l0.length : Int) then (if ((l0.length : Int) : Int).toNat ≤ 281474976710656 then (testamurref07_Coefficients.l0 k l0 l1 (List.replicate ((l0.length : Int) : Int).toNat 0) 0) else (none)) else (none)) else (some (([] : List Int), 1))) = some (r1, r2) := H
  have A3 := Aside0.mk A30
  clear A30
  by_cases c4 : t242 = true
  · subst c4
    have H1 : (if 0 ≤ (l0.length : Int) then (if ((l0.length : Int) : Int).toNat ≤ 281474976710656 then (testamurref07_Coefficients.l0 k l0 l1 (List.replicate ((l0.length : Int) : Int).toNat 0) 0) else (none)) else (none)) = some (r1, r2) := by rw [if_pos rfl] at H; exact H
    clear H
    have H := H1
    clear H1
    by_cases c5 : 0 ≤ (l0.length : Int)
    · rw [if_pos c5] at H
      have c5b0 := eq_true c5
      have c5b1 : decide (0 ≤ (l0.length : Int)) = true := decide_eq_true c5
      clear c5
      by_cases c6 : ((l0.length : Int) : Int).toNat ≤ 281474976710656
      · rw [if_pos c6] at H
        have c6b0 := eq_true c6
        have c6b1 : decide (((l0.length : Int) : Int).toNat ≤ 281474976710656) = true := decide_eq_true c6
        clear c6
        obtain ⟨y243, hy243⟩ : ∃ y_ : List Int, y_ = (List.replicate ((l0.length : Int) : Int).toNat 0) := ⟨_, rfl⟩
        replace H : (testamurref07_Coefficients.l0 k l0 l1 y243 0) = some (r1, r2) := by first | (rw [hy243]; with_reducible exact H) | (have H2_ := (Option.bind_some _ _).symm.trans H; rw [hy243]; with_reducible exact H2_) | (have H2_ := (Option.bind_some _ _).symm.trans H; with_reducible exact H2_) | with_reducible exact H | (rw [hy243]; exact H) | exact H
        have Ny243 := Aside0.mk hy243
        clear hy243
        have H' := Aside0.mk H
        clear H
        go_enter Try.func53, Try.ntmps53
        go_wp2_with (first | ((with_reducible refine gate_callee (f := 57) rfl ?_); refine goesL_ (some 14) rfl rfl Try.func57 (by kernel_rfl) rfl #[.slice A0 l0.length c0, .slice A1 l1.length c1] rfl (by (try simp only [List.map_toArray, List.map_cons, List.map_nil]); first | done | rfl | (simp only [List.length_drop, List.length_take]; rfl)) ?_; (with_reducible refine (testamurref07_Points.calls k _ _ l0 _ _ l1 true _ ?side1 ?side2 ?side3 ?side4 A3.out).mono ?_); (case side1 => repeat (first | exact HR0.out | (with_reducible refine Kd.C_alloc ?_ _) | (with_reducible refine Kd.C_drewN ?_ _) | (with_reducible refine Kd.C_drew ?_))); (case side2 => exact HC0.out); (case side3 => repeat (first | exact HR1.out | (with_reducible refine Kd.C_alloc ?_ _) | (with_reducible refine Kd.C_drewN ?_ _) | (with_reducible refine Kd.C_drew ?_))); (case side4 => exact HC1.out); rintro e w' ⟨rfl, ⟨nd, rfl⟩⟩; refine ⟨_, rfl, ?_⟩) | ((with_reducible refine gate_dst (N := 18) rfl ?_); refine Kd.R_make (Kd.int .u8) _ 5 rfl (N := 18) rfl 30 _ _ rfl (l0.length : Int) rfl rfl Try.underlying30 (.int .u8 0) 1 info5 rfl (by decide) (by omega) 0 (ok := fun _ => True) (okp := fun _ => True) rfl (fun _ hk => hk) trivial (of_decide_eq_true (by first | (with_reducible assumption) | assumption)) (Nat.le_trans (Nat.mul_le_mul_right _ (of_decide_eq_true (by first | (with_reducible assumption) | assumption) : (l0.length : Int).toNat ≤ 281474976710656)) (by omega)) (Below.refl _ _) (Nat.le_refl _) ?_; intro v244 w7 ho8 hb hg_ hnew_; clear hg_ hnew_; (first | rw [← Ny243.out] at ho8 | (simp only [Int.reduceToNat] at ho8; rw [← Ny243.out] at ho8)); have n0_ := Aside0.mk (Kd.R_lower ho8 (below_size (by repeat (first | (with_reducible first | exact HB.out | apply below_alloc | apply pw_below_drewN | apply below_drew1) | exact HB.out)))); have n1_ := Aside0.mk (below_step (by repeat (first | (with_reducible first | exact HB.out | apply below_alloc | apply pw_below_drewN | apply below_drew1) | exact HB.out)) hb); clear HB; have HO245 := n0_; have HB := n1_; clear n0_ n1_; clear hb ho8))
        go_loopg [7] k (fun kq v7 w' => ∃ (x6_1 : List Int) (x7_1 : Int), v7 = .int .i64 x7_1 ∧ Aside0 (testamurref07_Coefficients.l0 kq l0 l1 x6_1 x7_1 = some (r1, r2)) ∧ Aside0 (kq ≤ k) ∧ Aside0 (Kd.R (Kd.int .u8) 5 w' w.heap.size (fun _ => True) v244 x6_1) ∧ Aside0 (Below w.heap.size w w'))
        case atStart => exact ⟨(y243), (0), (by first | rfl | (simp; done) | (simp [*]; done)), H', ⟨Nat.le_refl _⟩, ⟨by (with_reducible repeat (first | apply Kd.R_alloc | apply Kd.R_drewN | apply Kd.R_drew)); exact HO245.out⟩, ⟨by repeat (first | (with_reducible first | exact HB.out | apply below_alloc | apply pw_below_drewN | apply below_drew1) | exact HB.out)⟩⟩
        case round =>
          clear H'
          try clear c1
          try clear p2
          try clear c4
          try clear c5
          try clear c5b0
          try clear c5b1
          try clear c6
          try clear c6b0
          try clear c6b1
          obtain ⟨x6_1, x7_1, rfl, HA, HK1, HO_6, HB⟩ := hrel
          cases gk with
          | zero => exact absurd HA.out (by simp [testamurref07_Coefficients.l0])
          | succ k1 =>
            have H := HA.out
            clear HA
            simp only [testamurref07_Coefficients.l0] at H
            by_cases c9 : x7_1 < (l0.length : Int)
            · rw [if_pos c9] at H
              have c9b0 : decide (x7_1 < (l0.length : Int)) = true := decide_eq_true c9
              clear c9
              by_cases c10 : 0 ≤ x7_1
              · rw [if_pos c10] at H
                have c10b0 : decide (0 ≤ x7_1) = true := decide_eq_true c10
                clear c10
                by_cases c11 : x7_1 < (l1.length : Int)
                · rw [if_pos c11] at H
                  have c11b0 : decide (x7_1 < (l1.length : Int)) = true := decide_eq_true c11
                  clear c11
                  obtain ⟨y247, hy247⟩ : ∃ y_ : List Int, y_ = (([rd l1 x7_1] : List Int)) := ⟨_, rfl⟩
                  replace H : (testamurref07_Coefficients.l1 k1 l0 l1 x6_1 x7_1 y247 0) = some (r1, r2) := by first | (rw [hy247]; with_reducible exact H) | (have H2_ := (Option.bind_some _ _).symm.trans H; rw [hy247]; with_reducible exact H2_) | (have H2_ := (Option.bind_some _ _).symm.trans H; with_reducible exact H2_) | with_reducible exact H | (rw [hy247]; exact H) | exact H
                  have Ny247 := Aside0.mk hy247
                  clear hy247
                  have H' := Aside0.mk H
                  clear H
                  have p246 : 0 ≤ (x7_1 : Int) := of_decide_eq_true (by first | (with_reducible assumption) | assumption)
                  have q246 : x7_1 < (l1.length : Int) := of_decide_eq_true (by first | (with_reducible assumption) | assumption)
                  obtain ⟨ad246, e246, hx246_0⟩ := Kd.at_int HR1.out x7_1 p246 q246
                  cases e246
                  replace hx246_0 := (HB.out.cell (World.block_lt_of_cell? w _ hx246_0)).trans hx246_0
                  replace p246 := eq_true p246
                  replace q246 := eq_true q246
                  go_wp2_with (first | ((with_reducible refine gate_dst (N := 29) rfl ?_); refine Kd.R_lit (Kd.int .u8) _ 5 ?hg (N := 29) ?hd (xs := ([rd l1 x7_1] : List Int)) (inner := [.int .u8 (rd l1 x7_1)]) (ok := fun _ => True) (okp := fun _ => True) ?hr ?hp (fun _ hk => hk) trivial (Below.refl _ _) (Nat.le_refl _) (by simp) ?_; (case hd => rfl); (case hg => rfl); (case hr => first | (go_simp; done) | (go_simp; rfl)); (case hp => exact (Reps.one (show Kd.M (Kd.int .u8) _ _ _ (rd l1 x7_1) [.int .u8 (rd l1 x7_1)] from rfl) (Reps.none _ _))); intro v248 w12 ho13 hb hg_ hnew_; clear hg_ hnew_; (first | rw [← Ny247.out] at ho13 | (simp only [Int.reduceToNat] at ho13; rw [← Ny247.out] at ho13)); have n0_ := Aside0.mk (Kd.R_elder' (by (with_reducible repeat (first | apply Kd.R_alloc | apply Kd.R_drewN | apply Kd.R_drew)); exact HO_6.out) (Kd.R_base ho13) hb); have n1_ := Aside0.mk (Kd.R_lower (Kd.R_new' ho13 (Kd.R_lt (by (with_reducible repeat (first | apply Kd.R_alloc | apply Kd.R_drewN | apply Kd.R_drew)); exact HO_6.out))) (below_size (by repeat (first | (with_reducible first | exact HB.out | apply below_alloc | apply pw_below_drewN | apply below_drew1) | exact HB.out)))); have n2_ := Aside0.mk (below_step (by repeat (first | (with_reducible first | exact HB.out | apply below_alloc | apply pw_below_drewN | apply below_drew1) | exact HB.out)) hb); clear HO_6; clear HB; have HO_6 := n0_; have HO249 := n1_; have HB := n2_; clear n0_ n1_ n2_; clear hb ho13))
                  go_loopg [8, 9] k1 (fun kq v8 v9 w' => ∃ (x8_2 : List Int) (x9_2 : Int), v9 = .int .i64 x9_2 ∧ Aside0 (testamurref07_Coefficients.l1 kq l0 l1 x6_1 x7_1 x8_2 x9_2 = some (r1, r2)) ∧ Aside0 (kq ≤ k1) ∧ Aside0 (Kd.R (Kd.int .u8) 5 w' w.heap.size (fun k_ => some k_ ≠ (v8 : Value).ownBlock) v244 x6_1) ∧ Aside0 (Kd.R (Kd.int .u8) 5 w' w.heap.size (fun k_ => some k_ ≠ (v244 : Value).ownBlock) v8 x8_2) ∧ Aside0 (Below w.heap.size w w'))
                  case atStart => exact ⟨(y247), (0), (by first | rfl | (simp; done) | (simp [*]; done)), H', ⟨Nat.le_refl _⟩, ⟨by (with_reducible repeat (first | apply Kd.R_alloc | apply Kd.R_drewN | apply Kd.R_drew)); exact Kd.R_mono HO_6.out (fun _ hk => hk.2)⟩, ⟨by (with_reducible repeat (first | apply Kd.R_alloc | apply Kd.R_drewN | apply Kd.R_drew)); exact Kd.R_mono HO249.out (fun _ hk => hk.2)⟩, ⟨by repeat (first | (with_reducible first | exact HB.out | apply below_alloc | apply pw_below_drewN | apply below_drew1) | exact HB.out)⟩⟩
                  case round =>
                    clear H'
                    try clear c1
                    try clear p2
                    try clear q2
                    try clear hx2
                    try clear c4
                    try clear c5
                    try clear c5b0
                    try clear c5b1
                    try clear c6
                    try clear c6b0
                    try clear c6b1
                    try clear c9
                    try clear c9b0
                    try clear c10
                    try clear c10b0
                    try clear c11
                    try clear c11b0
                    try clear hx246_0
                    try clear p2
                    try clear p246
                    try clear q246
                    obtain ⟨x8_2, x9_2, rfl, HA, HK2, HO_6, HO_8, HB⟩ := hrel
                    cases gk with
                    | zero => exact absurd HA.out (by simp [testamurref07_Coefficients.l1])
                    | succ k2 =>
                      have H := HA.out
                      clear HA
                      simp only [testamurref07_Coefficients.l1] at H
                      by_cases c14 : x9_2 < (l0.length : Int)
                      · rw [if_pos c14] at H
                        have c14b0 : decide (x9_2 < (l0.length : Int)) = true := decide_eq_true c14
                        clear c14
                        by_cases c15 : x9_2 = x7_1
                        · rw [if_pos c15] at H
                          have c15b0 : (x9_2 == x7_1) = true := beq_iff_eq.mpr c15
                          have c15b1 : (x9_2 != x7_1) = false := bne_eq_false_iff_eq.mpr c15
                          clear c15
                          have H' := Aside0.mk H
                          clear H
                          go_wp2
                          go_roundg k2
                          case measure => have := HK1.out; have := HK2.out; omega
                          case rel => exact ⟨(x8_2), (wrap64 (x9_2 + 1)), (by first | rfl | (simp; done) | (simp [*]; done)), H', ⟨by have := HK1.out; have := HK2.out; omega⟩, ⟨by (with_reducible repeat (first | apply Kd.R_alloc | apply Kd.R_drewN | apply Kd.R_drew)); exact HO_6.out⟩, ⟨by (with_reducible repeat (first | apply Kd.R_alloc | apply Kd.R_drewN | apply Kd.R_drew)); exact HO_8.out⟩, ⟨by repeat (first | (with_reducible first | exact HB.out | apply below_alloc | apply pw_below_drewN | apply below_drew1) | exact HB.out)⟩⟩
                        · rw [if_neg c15] at H
                          have c15b0 : (x9_2 == x7_1) = false := beq_eq_false_iff_ne.mpr c15
                          have c15b1 : (x9_2 != x7_1) = true := bne_iff_ne.mpr c15
                          by_cases c16 : 0 ≤ x7_1
                          · rw [if_pos c16] at H
                            have c16b0 : decide (0 ≤ x7_1) = true := decide_eq_true c16
                            clear c16
                            by_cases c17 : x7_1 < (l0.length : Int)
                            · rw [if_pos c17] at H
                              have c17b0 : decide (x7_1 < (l0.length : Int)) = true := decide_eq_true c17
                              clear c17
                              by_cases c18 : 0 ≤ x9_2
                              · rw [if_pos c18] at H
                                have c18b0 : decide (0 ≤ x9_2) = true := decide_eq_true c18
                                clear c18
                                replace H := Option.bind_eq_some_iff.mp H
                                obtain ⟨t252, A190, H⟩ := H
                                replace H : ((testamurref07_Mul.f t252 (rd l0 x9_2)).bind fun t254 => ((testamurref07_times.f x8_2 t254 t252).bind fun t255 => (testamurref07_Coefficients.l1 k2 l0 l1 x6_1 x7_1 t255 (wrap64 (x9_2 + 1))))) = some (r1, r2) := H
                                have A19 := Aside0.mk A190
                                clear A190
                                replace H := Option.bind_eq_some_iff.mp H
                                obtain ⟨t254, A200, H⟩ := H
                                replace H : ((testamurref07_times.f x8_2 t254 t252).bind fun t255 => (testamurref07_Coefficients.l1 k2 l0 l1 x6_1 x7_1 t255 (wrap64 (x9_2 + 1)))) = some (r1, r2) := H
                                have A20 := Aside0.mk A200
                                clear A200
                                replace H := Option.bind_eq_some_iff.mp H
                                obtain ⟨t255, A210, H⟩ := H
                                replace H : (testamurref07_Coefficients.l1 k2 l0 l1 x6_1 x7_1 t255 (wrap64 (x9_2 + 1))) = some (r1, r2) := H
                                have A21 := Aside0.mk A210
                                clear A210
                                have H' := Aside0.mk H
                                clear H
                                try go_wp2
                                have n0_ := Aside0.mk (Kd.R_drew HO_6.out)
                                have n1_ := Aside0.mk (Kd.R_drew HO_8.out)
                                have n2_ := Aside0.mk (below_drew1 HB.out)
                                clear HO_6
                                clear HO_8
                                clear HB
                                have HO_6 := n0_
                                have HO_8 := n1_
                                have HB := n2_
                                clear n0_ n1_ n2_
                                have p250 : 0 ≤ (x7_1 : Int) := of_decide_eq_true (by first | (with_reducible assumption) | assumption)
                                have q250 : x7_1 < (l0.length : Int) := of_decide_eq_true (by first | (with_reducible assumption) | assumption)
                                obtain ⟨ad250, e250, hx250_0⟩ := Kd.at_int HR0.out x7_1 p250 q250
                                have hw250_0 := hx250_0
                                cases e250
                                replace hx250_0 := (HB.out.cell (World.block_lt_of_cell? w _ hx250_0)).trans hx250_0
                                replace p250 := eq_true p250
                                replace q250 := eq_true q250
                                have p251 : 0 ≤ (x9_2 : Int) := of_decide_eq_true (by first | (with_reducible assumption) | assumption)
                                have q251 : x9_2 < (l0.length : Int) := of_decide_eq_true (by first | (with_reducible assumption) | assumption)
                                obtain ⟨ad251, e251, hx251_0⟩ := Kd.at_int HR0.out x9_2 p251 q251
                                have hw251_0 := hx251_0
                                obtain rfl : ad250 = ad251 := (by injection e251)
                                replace hx251_0 := (HB.out.cell (World.block_lt_of_cell? w _ hx251_0)).trans hx251_0
                                replace p251 := eq_true p251
                                replace q251 := eq_true q251
                                refine start_ (n := 11) (S := fun w' => w'.cell? (ad250.add (x7_1).toNat) = some (.int .u8 (rd l0 x7_1)) ∧ w'.cell? (ad250.add (x9_2).toNat) = some (.int .u8 (rd l0 x9_2))) (ds := []) #[false, false, false, false, false, false, false, false, false, false, false] (by kernel_rfl) rfl rfl ⟨((HB.out.cell (World.block_lt_of_cell? w _ hw250_0)).trans hw250_0), ((HB.out.cell (World.block_lt_of_cell? w _ hw251_0)).trans hw251_0)⟩ (fun hHeld => ?_); refine with_tabW testamurref07_Coefficients.tab12 testamurref07_Coefficients.bits12 (fun HT_ HW_ => ?_)
                                generalize wr.drew = w22 at HO_6 HO_8 HB hx250_0 hx251_0 hHeld ⊢
                                refine pure_ (i := 0) (N := some 39) (v := ?_) (a' := ?_) #[true, false, false, false, false, false, false, false, false, false, false] rfl rfl (any_of HT_.out (by kernel_rfl)) (fun _ _ _ h => h) (Or.inl ⟨by rfl, ?_⟩) ?_ ?_
                                rotate_left
                                · intro w'
                                  go_simp
                                  with_reducible rfl
                                rotate_left
                                · simp only [Act.put, List.setIfInBounds_toArray, List.set_cons_zero, List.set_cons_succ, i64_w, i32_w]
                                  rfl
                                refine pure_ (i := 1) (N := some 40) (v := ?_) (a' := ?_) #[true, true, false, false, false, false, false, false, false, false, false] rfl rfl (any_of HT_.out (by kernel_rfl)) (fun _ _ _ h => h) (Or.inl ⟨by rfl, ?_⟩) ?_ ?_
                                rotate_left
                                · intro w'
                                  go_simp
                                  with_reducible rfl
                                rotate_left
                                · simp only [Act.put, List.setIfInBounds_toArray, List.set_cons_zero, List.set_cons_succ, i64_w, i32_w]
                                  rfl
                                refine pure_ (i := 2) (N := some 41) (v := ?_) (a' := ?_) #[true, true, true, false, false, false, false, false, false, false, false] rfl rfl (any_of HT_.out (by kernel_rfl)) (fun _ _ _ h => h) (Or.inl ⟨by rfl, ?_⟩) ?_ ?_
                                rotate_left
                                · intro w'
                                  go_simp
                                  with_reducible rfl
                                rotate_left
                                · simp only [Act.put, List.setIfInBounds_toArray, List.set_cons_zero, List.set_cons_succ, i64_w, i32_w]
                                  rfl
                                refine pure_ (i := 4) (N := some 43) (v := ?_) (a' := ?_) #[true, true, true, false, true, false, false, false, false, false, false] rfl rfl (any_of HT_.out (by kernel_rfl)) (fun _ _ _ h => h) (Or.inl ⟨by rfl, ?_⟩) ?_ ?_
                                rotate_left
                                · intro w'
                                  go_simp
                                  with_reducible rfl
                                rotate_left
                                · simp only [Act.put, List.setIfInBounds_toArray, List.set_cons_zero, List.set_cons_succ, i64_w, i32_w]
                                  rfl
                                refine pure_ (i := 5) (N := some 44) (v := ?_) (a' := ?_) #[true, true, true, false, true, true, false, false, false, false, false] rfl rfl (any_of HT_.out (by kernel_rfl)) (fun _ _ _ h => h) (Or.inl ⟨by rfl, ?_⟩) ?_ ?_
                                rotate_left
                                · intro w'
                                  go_simp
                                  with_reducible rfl
                                rotate_left
                                · simp only [Act.put, List.setIfInBounds_toArray, List.set_cons_zero, List.set_cons_succ, i64_w, i32_w]
                                  rfl
                                refine pure_ (i := 6) (N := some 45) (v := ?_) (a' := ?_) #[true, true, true, false, true, true, true, false, false, false, false] rfl rfl (any_of HT_.out (by kernel_rfl)) (fun _ _ _ h => h) (Or.inl ⟨by rfl, ?_⟩) ?_ ?_
                                rotate_left
                                · intro w'
                                  go_simp
                                  with_reducible rfl
                                rotate_left
                                · simp only [Act.put, List.setIfInBounds_toArray, List.set_cons_zero, List.set_cons_succ, i64_w, i32_w]
                                  rfl
                                refine take_ (i := 3) (N := some 42) (v := ?_) (a' := ?_) #[true, true, true, true, true, true, true, false, false, false, false] rfl rfl (take_ofW HT_.out HW_.out (by kernel_rfl)) (fun _ _ _ h => h) (Or.inl ⟨by rfl, ?_⟩) hHeld ?_ ?_
                                rotate_left
                                · rintro w' ⟨s0, s1⟩
                                  go_simp
                                  with_reducible rfl
                                rotate_left
                                · simp only [Act.put, List.setIfInBounds_toArray, List.set_cons_zero, List.set_cons_succ, i64_w, i32_w]
                                  rfl
                                refine take_ (i := 7) (N := some 46) (v := ?_) (a' := ?_) #[true, true, true, true, true, true, true, true, false, false, false] rfl rfl (take_ofW HT_.out HW_.out (by kernel_rfl)) (fun _ _ _ h => h) (Or.inl ⟨by rfl, ?_⟩) hHeld ?_ ?_
                                rotate_left
                                · rintro w' ⟨s0, s1⟩
                                  go_simp
                                  with_reducible rfl
                                rotate_left
                                · simp only [Act.put, List.setIfInBounds_toArray, List.set_cons_zero, List.set_cons_succ, i64_w, i32_w]
                                  rfl
                                refine pure_ (i := 8) (N := some 47) (v := ?_) (a' := ?_) #[true, true, true, true, true, true, true, true, true, false, false] rfl rfl (any_of HT_.out (by kernel_rfl)) (fun _ _ _ h => h) (Or.inl ⟨by rfl, ?_⟩) ?_ ?_
                                rotate_left
                                · intro w'
                                  go_simp
                                  with_reducible rfl
                                rotate_left
                                · simp only [Act.put, List.setIfInBounds_toArray, List.set_cons_zero, List.set_cons_succ, i64_w, i32_w]
                                  rfl
                                refine one_ (i := 9) (N := some 48) #[true, true, true, true, true, true, true, true, true, true, false] rfl rfl (one_of HT_.out (by kernel_rfl)) (by decide) (fun K hK => ?_)
                                refine goes_ Try.func58 (by kernel_rfl) rfl #[.int .u8 1, .int .u8 (Go.bits .xor .u8 (rd l0 x7_1) (rd l0 x9_2))] (by rfl) rfl rfl (by (try simp only [List.map_toArray, List.map_cons, List.map_nil]); first | done | rfl | (simp only [List.length_drop, List.length_take]; rfl)) ?_
                                with_reducible refine (testamurref07_over.calls 1 (Go.bits .xor .u8 (rd l0 x7_1) (rd l0 x9_2)) t252 _ A19.out).mono ?_
                                rintro e w23 ⟨rfl, hb⟩
                                refine ⟨_, rfl, ?_⟩
                                have n0_ := Aside0.mk (Kd.R_below (by (with_reducible repeat (first | apply Kd.R_alloc | apply Kd.R_drewN | apply Kd.R_drew)); exact HO_6.out) hb)
                                have n1_ := Aside0.mk (Kd.R_below (by (with_reducible repeat (first | apply Kd.R_alloc | apply Kd.R_drewN | apply Kd.R_drew)); exact HO_8.out) hb)
                                have n2_ := Aside0.mk (below_step (by repeat (first | (with_reducible first | exact HB.out | apply below_alloc | apply pw_below_drewN | apply below_drew1) | exact HB.out)) hb)
                                clear HO_6
                                clear HO_8
                                clear HB
                                have HO_6 := n0_
                                have HO_8 := n1_
                                have HB := n2_
                                clear n0_ n1_ n2_
                                (try clear hb)
                                (try clear hb2)
                                (try clear hk)
                                (try clear hi)
                                refine hK.out _ _ ⟨((HB.out.cell (World.block_lt_of_cell? w _ hw250_0)).trans hw250_0), ((HB.out.cell (World.block_lt_of_cell? w _ hw251_0)).trans hw251_0)⟩ (fun hHeld => ?_)
                                clear hK K
                                refine norm_ (a' := ?_) ?_ ?_
                                rotate_left
                                · show Act.put _ (some 48) _ = _
                                  simp only [Act.put, List.setIfInBounds_toArray, List.set_cons_zero, List.set_cons_succ, i64_w, i32_w]
                                  rfl
                                refine pure_ (i := 10) (N := some 10) (v := ?_) (a' := ?_) #[true, true, true, true, true, true, true, true, true, true, true] rfl rfl (any_of HT_.out (by kernel_rfl)) (fun _ _ _ h => h) (Or.inl ⟨by rfl, ?_⟩) ?_ ?_
                                rotate_left
                                · intro w'
                                  go_simp
                                  with_reducible rfl
                                rotate_left
                                · simp only [Act.put, List.setIfInBounds_toArray, List.set_cons_zero, List.set_cons_succ, i64_w, i32_w]
                                  rfl
                                refine done_ (done_of HT_.out (by kernel_rfl)) ?_
                                have p253 : 0 ≤ (x9_2 : Int) := of_decide_eq_true (by first | (with_reducible assumption) | assumption)
                                have q253 : x9_2 < (l0.length : Int) := of_decide_eq_true (by first | (with_reducible assumption) | assumption)
                                obtain ⟨ad253, e253, hx253_0⟩ := Kd.at_int HR0.out x9_2 p253 q253
                                obtain rfl : ad250 = ad253 := (by injection e253)
                                replace hx253_0 := (HB.out.cell (World.block_lt_of_cell? w _ hx253_0)).trans hx253_0
                                replace p253 := eq_true p253
                                replace q253 := eq_true q253
                                try go_wp2_with (first | ((with_reducible refine gate_callee (f := 19) rfl ?_); refine goesL_ (some 55) rfl rfl Try.func19 (by kernel_rfl) rfl #[.int .u8 t252, .int .u8 (rd l0 x9_2)] rfl (by (try simp only [List.map_toArray, List.map_cons, List.map_nil]); first | done | rfl | (simp only [List.length_drop, List.length_take]; rfl)) ?_; (with_reducible refine (testamurref07_Mul.calls t252 (rd l0 x9_2) t254 _ A20.out).mono ?_); rintro e w24 ⟨rfl, hb⟩; refine ⟨_, rfl, ?_⟩; have n0_ := Aside0.mk (Kd.R_below (by (with_reducible repeat (first | apply Kd.R_alloc | apply Kd.R_drewN | apply Kd.R_drew)); exact HO_6.out) hb); have n1_ := Aside0.mk (Kd.R_below (by (with_reducible repeat (first | apply Kd.R_alloc | apply Kd.R_drewN | apply Kd.R_drew)); exact HO_8.out) hb); have n2_ := Aside0.mk (below_step (by repeat (first | (with_reducible first | exact HB.out | apply below_alloc | apply pw_below_drewN | apply below_drew1) | exact HB.out)) hb); clear HO_6; clear HO_8; clear HB; have HO_6 := n0_; have HO_8 := n1_; have HB := n2_; clear n0_ n1_ n2_; (try clear hb); (try clear hb2); (try clear hk); (try clear hi); obtain ⟨Ao25, co25, eo25⟩ := Kd.R_slice HO_8.out; subst eo25) | ((with_reducible refine gate_callee (f := 59) rfl ?_); refine goesL_ (some 57) rfl rfl Try.func59 (by kernel_rfl) rfl #[.slice Ao25 x8_2.length co25, .int .u8 t254, .int .u8 t252] rfl (by (try simp only [List.map_toArray, List.map_cons, List.map_nil]); first | done | rfl | (simp only [List.length_drop, List.length_take]; rfl)) ?_; (with_reducible refine (testamurref07_times.calls _ _ x8_2 t254 t252 t255 _ ?side1 ?side2 A21.out).mono ?_); (case side1 => repeat (first | exact (Kd.R_reads' HO_8.out).2.2 | (with_reducible refine Kd.C_alloc ?_ _) | (with_reducible refine Kd.C_drewN ?_ _) | (with_reducible refine Kd.C_drew ?_))); (case side2 => exact (Kd.R_reads' HO_8.out).2.1); rintro e w26 ⟨v256, rfl, ho0, hb⟩; refine ⟨_, rfl, ?_⟩; have n0_ := Aside0.mk (Kd.R_elder' (by (with_reducible repeat (first | apply Kd.R_alloc | apply Kd.R_drewN | apply Kd.R_drew)); exact HO_6.out) (Kd.R_base ho0) hb); have n1_ := Aside0.mk (Kd.R_elder' (by (with_reducible repeat (first | apply Kd.R_alloc | apply Kd.R_drewN | apply Kd.R_drew)); exact HO_8.out) (Kd.R_base ho0) hb); have n2_ := Aside0.mk (Kd.R_lower (Kd.R_new' (Kd.R_new' ho0 (Kd.R_lt (by (with_reducible repeat (first | apply Kd.R_alloc | apply Kd.R_drewN | apply Kd.R_drew)); exact HO_6.out))) (Kd.R_lt (by (with_reducible repeat (first | apply Kd.R_alloc | apply Kd.R_drewN | apply Kd.R_drew)); exact HO_8.out))) (below_size (by repeat (first | (with_reducible first | exact HB.out | apply below_alloc | apply pw_below_drewN | apply below_drew1) | exact HB.out)))); have n3_ := Aside0.mk (below_step (by repeat (first | (with_reducible first | exact HB.out | apply below_alloc | apply pw_below_drewN | apply below_drew1) | exact HB.out)) hb); clear HO_6; clear HO_8; clear HB; have HO_6 := n0_; have HO_8 := n1_; have HO257 := n2_; have HB := n3_; clear n0_ n1_ n2_ n3_; (try clear hb); (try clear hb2); (try clear hk); (try clear hi); (try clear ho0)))
                                go_roundg k2
                                case measure => have := HK1.out; have := HK2.out; omega
                                case rel => exact ⟨(t255), (wrap64 (x9_2 + 1)), (by first | rfl | (simp; done) | (simp [*]; done)), H', ⟨by have := HK1.out; have := HK2.out; omega⟩, ⟨by (with_reducible repeat (first | apply Kd.R_alloc | apply Kd.R_drewN | apply Kd.R_drew)); exact Kd.R_mono HO_6.out (fun _ hk => hk.2)⟩, ⟨by (with_reducible repeat (first | apply Kd.R_alloc | apply Kd.R_drewN | apply Kd.R_drew)); exact Kd.R_mono HO257.out (fun _ hk => hk.1.2)⟩, ⟨by repeat (first | (with_reducible first | exact HB.out | apply below_alloc | apply pw_below_drewN | apply below_drew1) | exact HB.out)⟩⟩
                              · rw [if_neg c18] at H
                                exact absurd H (by simp)
                            · rw [if_neg c17] at H
                              exact absurd H (by simp)
                          · rw [if_neg c16] at H
                            exact absurd H (by simp)
                      · rw [if_neg c14] at H
                        have c14b0 : decide (x9_2 < (l0.length : Int)) = false := decide_eq_false c14
                        clear c14
                        have H' := Aside0.mk H
                        clear H
                        go_wp2
                        go_loopg [11] k2 (fun kq v11 w' => ∃ (x6_3 : List Int) (x11_3 : Int), v11 = .int .i64 x11_3 ∧ Aside0 (testamurref07_Coefficients.l2 kq l0 l1 x6_3 x7_1 x8_2 x11_3 = some (r1, r2)) ∧ Aside0 (kq ≤ k2) ∧ Aside0 (Kd.R (Kd.int .u8) 5 w' w.heap.size (fun k_ => some k_ ≠ (u8 : Value).ownBlock) v244 x6_3) ∧ Aside0 (Kd.R (Kd.int .u8) 5 w' w.heap.size (fun k_ => some k_ ≠ (v244 : Value).ownBlock) u8 x8_2) ∧ Aside0 (Below w.heap.size w w'))
                        case atStart => exact ⟨(x6_1), (0), (by first | rfl | (simp; done) | (simp [*]; done)), H', ⟨Nat.le_refl _⟩, ⟨by (with_reducible repeat (first | apply Kd.R_alloc | apply Kd.R_drewN | apply Kd.R_drew)); exact HO_6.out⟩, ⟨by (with_reducible repeat (first | apply Kd.R_alloc | apply Kd.R_drewN | apply Kd.R_drew)); exact HO_8.out⟩, ⟨by repeat (first | (with_reducible first | exact HB.out | apply below_alloc | apply pw_below_drewN | apply below_drew1) | exact HB.out)⟩⟩
                        case round =>
                          clear H'
                          try clear c1
                          try clear p2
                          try clear q2
                          try clear hx2
                          try clear c4
                          try clear c5
                          try clear c5b0
                          try clear c5b1
                          try clear c6
                          try clear c6b0
                          try clear c6b1
                          try clear p6
                          try clear c9
                          try clear c9b0
                          try clear c10
                          try clear c10b0
                          try clear c11
                          try clear c11b0
                          try clear c14
                          try clear c14b0
                          try clear c15
                          try clear c15b0
                          try clear c15b1
                          try clear c16
                          try clear c16b0
                          try clear c17
                          try clear c17b0
                          try clear c18
                          try clear c18b0
                          try clear c19
                          try clear p24
                          try clear q24
                          try clear hx24
                          try clear p25
                          try clear q25
                          try clear hx25
                          try clear hx246_0
                          try clear hx250_0
                          try clear hx251_0
                          try clear hx253_0
                          try clear p2
                          try clear p246
                          try clear p250
                          try clear p251
                          try clear p253
                          try clear q2
                          try clear q246
                          try clear q250
                          try clear q251
                          try clear q253
                          obtain ⟨x6_3, x11_3, rfl, HA, HK3, HO_6, HO_8, HB⟩ := hrel
                          cases gk with
                          | zero => exact absurd HA.out (by simp [testamurref07_Coefficients.l2])
                          | succ k3 =>
                            have H := HA.out
                            clear HA
                            simp only [testamurref07_Coefficients.l2] at H
                            by_cases c27 : x11_3 < (x8_2.length : Int)
                            · rw [if_pos c27] at H
                              have c27b0 : decide (x11_3 < (x8_2.length : Int)) = true := decide_eq_true c27
                              clear c27
                              by_cases c28 : 0 ≤ x11_3
                              · rw [if_pos c28] at H
                                have c28b0 : decide (0 ≤ x11_3) = true := decide_eq_true c28
                                clear c28
                                by_cases c29 : x11_3 < (x6_3.length : Int)
                                · rw [if_pos c29] at H
                                  have c29b0 : decide (x11_3 < (x6_3.length : Int)) = true := decide_eq_true c29
                                  clear c29
                                  obtain ⟨y260, hy260⟩ : ∃ y_ : List Int, y_ = (x6_3.set (x11_3 : Int).toNat (Go.bits .xor .u8 (rd x6_3 x11_3) (rd x8_2 x11_3))) := ⟨_, rfl⟩
                                  replace H : (testamurref07_Coefficients.l2 k3 l0 l1 y260 x7_1 x8_2 (wrap64 (x11_3 + 1))) = some (r1, r2) := by first | (rw [hy260]; with_reducible exact H) | (have H2_ := (Option.bind_some _ _).symm.trans H; rw [hy260]; with_reducible exact H2_) | (have H2_ := (Option.bind_some _ _).symm.trans H; with_reducible exact H2_) | with_reducible exact H | (rw [hy260]; exact H) | exact H
                                  have Ny260 := Aside0.mk hy260
                                  clear hy260
                                  have H' := Aside0.mk H
                                  clear H
                                  obtain ⟨Ao31, co31, eo31⟩ := Kd.R_slice HO_8.out
                                  subst eo31
                                  try go_wp2
                                  have n0_ := Aside0.mk (Kd.R_drew HO_6.out)
                                  have n1_ := Aside0.mk (Kd.R_drew HO_8.out)
                                  have n2_ := Aside0.mk (below_drew1 HB.out)
                                  clear HO_6
                                  clear HO_8
                                  clear HB
                                  have HO_6 := n0_
                                  have HO_8 := n1_
                                  have HB := n2_
                                  clear n0_ n1_ n2_
                                  obtain ⟨Ao33, co33, eo33⟩ := Kd.R_slice HO_6.out
                                  (first | subst eo33 | (injection eo33 with f1_ f2_ f3_; have f4_ := f1_.symm; have f5_ := f3_.symm; clear f1_ f2_ f3_; subst f4_; subst f5_))
                                  have p258 : 0 ≤ (x11_3 : Int) := of_decide_eq_true (by first | (with_reducible assumption) | assumption)
                                  have q258 : x11_3 < (x6_3.length : Int) := of_decide_eq_true (by first | (with_reducible assumption) | assumption)
                                  obtain ⟨ad258, e258, hx258_0⟩ := Kd.at_int (Kd.R_reads' HO_6.out).2.2 x11_3 p258 q258
                                  cases e258
                                  replace p258 := eq_true p258
                                  replace q258 := eq_true q258
                                  have p259 : 0 ≤ (x11_3 : Int) := of_decide_eq_true (by first | (with_reducible assumption) | assumption)
                                  have q259 : x11_3 < (x8_2.length : Int) := of_decide_eq_true (by first | (with_reducible assumption) | assumption)
                                  obtain ⟨ad259, e259, hx259_0⟩ := Kd.at_int (Kd.R_reads' HO_8.out).2.2 x11_3 p259 q259
                                  cases e259
                                  replace p259 := eq_true p259
                                  replace q259 := eq_true q259
                                  have p30 : 0 ≤ (x11_3 : Int) := of_decide_eq_true (by first | (with_reducible assumption) | assumption)
                                  have q30 : (x11_3 : Int) < ((x6_3.length : Int) : Int) := of_decide_eq_true (by first | (with_reducible assumption) | assumption)
                                  obtain ⟨go30, co30, eo30, gb30, gl30, cl30, HG30⟩ := Kd.R_form HO_6.out (by omega)
                                  (first | cases eo30 | (injection eo30 with ea_ en_ ec_; (first | subst ea_ | (injection ea_ with ea_; subst ea_)); subst ec_; clear en_))
                                  have GB30 := Aside0.mk gb30
                                  have GG30 := Aside0.mk HG30
                                  clear gb30 gl30 HG30
                                  (first | simp only [add_plain] at hx258_0 | skip)
                                  obtain ⟨hx30_0, hf30_0⟩ := Kd.R_celln 0 HO_6.out (x11_3 : Int) p30 q30
                                  replace p30 := eq_true p30
                                  replace q30 := eq_true q30
                                  have HP34 := Kd.R_putn HO_6.out (x11_3 : Int) (Go.bits .xor .u8 (rd x6_3 x11_3) (rd x8_2 x11_3))
                                  rw [← Ny260.out] at HP34
                                  have HQ34 := Aside0.mk HP34
                                  clear HP34
                                  refine start_ (n := 13) (S := fun w' => w'.cell? ⟨go30, (x11_3).toNat, none⟩ = some (.int .u8 (rd x6_3 x11_3)) ∧ w'.cell? (ad259.add (x11_3).toNat) = some (.int .u8 (rd x8_2 x11_3))) (ds := [12]) #[false, false, false, false, false, false, false, false, false, false, false, false, false] (by kernel_rfl) rfl rfl ⟨hx258_0, hx259_0⟩ (fun hHeld => ?_); refine with_tabW testamurref07_Coefficients.tab17 testamurref07_Coefficients.bits17 (fun HT_ HW_ => ?_)
                                  generalize wr.drew = w32 at HO_6 HO_8 HB GG30 HQ34 hf30_0 hx258_0 hx259_0 hx30_0 hHeld ⊢
                                  refine pure_ (i := 0) (N := some 64) (v := ?_) (a' := ?_) #[true, false, false, false, false, false, false, false, false, false, false, false, false] rfl rfl (any_of HT_.out (by kernel_rfl)) (fun _ _ _ h => h) (Or.inl ⟨by rfl, ?_⟩) ?_ ?_
                                  rotate_left
                                  · intro w'
                                    go_simp
                                    with_reducible rfl
                                  rotate_left
                                  · simp only [Act.put, List.setIfInBounds_toArray, List.set_cons_zero, List.set_cons_succ, i64_w, i32_w]
                                    rfl
                                  refine pure_ (i := 1) (N := some 65) (v := ?_) (a' := ?_) #[true, true, false, false, false, false, false, false, false, false, false, false, false] rfl rfl (any_of HT_.out (by kernel_rfl)) (fun _ _ _ h => h) (Or.inl ⟨by rfl, ?_⟩) ?_ ?_
                                  rotate_left
                                  · intro w'
                                    go_simp
                                    with_reducible rfl
                                  rotate_left
                                  · simp only [Act.put, List.setIfInBounds_toArray, List.set_cons_zero, List.set_cons_succ, i64_w, i32_w]
                                    rfl
                                  refine pure_ (i := 2) (N := some 66) (v := ?_) (a' := ?_) #[true, true, true, false, false, false, false, false, false, false, false, false, false] rfl rfl (any_of HT_.out (by kernel_rfl)) (fun _ _ _ h => h) (Or.inl ⟨by rfl, ?_⟩) ?_ ?_
                                  rotate_left
                                  · intro w'
                                    go_simp
                                    with_reducible rfl
                                  rotate_left
                                  · simp only [Act.put, List.setIfInBounds_toArray, List.set_cons_zero, List.set_cons_succ, i64_w, i32_w]
                                    rfl
                                  refine pure_ (i := 3) (N := some 67) (v := ?_) (a' := ?_) #[true, true, true, true, false, false, false, false, false, false, false, false, false] rfl rfl (any_of HT_.out (by kernel_rfl)) (fun _ _ _ h => h) (Or.inl ⟨by rfl, ?_⟩) ?_ ?_
                                  rotate_left
                                  · intro w'
                                    go_simp
                                    with_reducible rfl
                                  rotate_left
                                  · simp only [Act.put, List.setIfInBounds_toArray, List.set_cons_zero, List.set_cons_succ, i64_w, i32_w]
                                    rfl
                                  refine pure_ (i := 4) (N := some 68) (v := ?_) (a' := ?_) #[true, true, true, true, true, false, false, false, false, false, false, false, false] rfl rfl (any_of HT_.out (by kernel_rfl)) (fun _ _ _ h => h) (Or.inl ⟨by rfl, ?_⟩) ?_ ?_
                                  rotate_left
                                  · intro w'
                                    go_simp
                                    with_reducible rfl
                                  rotate_left
                                  · simp only [Act.put, List.setIfInBounds_toArray, List.set_cons_zero, List.set_cons_succ, i64_w, i32_w]
                                    rfl
                                  refine pure_ (i := 6) (N := some 70) (v := ?_) (a' := ?_) #[true, true, true, true, true, false, true, false, false, false, false, false, false] rfl rfl (any_of HT_.out (by kernel_rfl)) (fun _ _ _ h => h) (Or.inl ⟨by rfl, ?_⟩) ?_ ?_
                                  rotate_left
                                  · intro w'
                                    go_simp
                                    with_reducible rfl
                                  rotate_left
                                  · simp only [Act.put, List.setIfInBounds_toArray, List.set_cons_zero, List.set_cons_succ, i64_w, i32_w]
                                    rfl
                                  refine pure_ (i := 7) (N := some 71) (v := ?_) (a' := ?_) #[true, true, true, true, true, false, true, true, false, false, false, false, false] rfl rfl (any_of HT_.out (by kernel_rfl)) (fun _ _ _ h => h) (Or.inl ⟨by rfl, ?_⟩) ?_ ?_
                                  rotate_left
                                  · intro w'
                                    go_simp
                                    with_reducible rfl
                                  rotate_left
                                  · simp only [Act.put, List.setIfInBounds_toArray, List.set_cons_zero, List.set_cons_succ, i64_w, i32_w]
                                    rfl
                                  refine pure_ (i := 8) (N := some 72) (v := ?_) (a' := ?_) #[true, true, true, true, true, false, true, true, true, false, false, false, false] rfl rfl (any_of HT_.out (by kernel_rfl)) (fun _ _ _ h => h) (Or.inl ⟨by rfl, ?_⟩) ?_ ?_
                                  rotate_left
                                  · intro w'
                                    go_simp
                                    with_reducible rfl
                                  rotate_left
                                  · simp only [Act.put, List.setIfInBounds_toArray, List.set_cons_zero, List.set_cons_succ, i64_w, i32_w]
                                    rfl
                                  refine take_ (i := 5) (N := some 69) (v := ?_) (a' := ?_) #[true, true, true, true, true, true, true, true, true, false, false, false, false] rfl rfl (take_ofW HT_.out HW_.out (by kernel_rfl)) (fun _ _ _ h => h) (Or.inl ⟨by rfl, ?_⟩) hHeld ?_ ?_
                                  rotate_left
                                  · rintro w' ⟨s0, s1⟩
                                    go_simp
                                    with_reducible rfl
                                  rotate_left
                                  · simp only [Act.put, List.setIfInBounds_toArray, List.set_cons_zero, List.set_cons_succ, i64_w, i32_w]
                                    rfl
                                  refine take_ (i := 9) (N := some 73) (v := ?_) (a' := ?_) #[true, true, true, true, true, true, true, true, true, true, false, false, false] rfl rfl (take_ofW HT_.out HW_.out (by kernel_rfl)) (fun _ _ _ h => h) (Or.inl ⟨by rfl, ?_⟩) hHeld ?_ ?_
                                  rotate_left
                                  · rintro w' ⟨s0, s1⟩
                                    go_simp
                                    with_reducible rfl
                                  rotate_left
                                  · simp only [Act.put, List.setIfInBounds_toArray, List.set_cons_zero, List.set_cons_succ, i64_w, i32_w]
                                    rfl
                                  refine pure_ (i := 10) (N := some 74) (v := ?_) (a' := ?_) #[true, true, true, true, true, true, true, true, true, true, true, false, false] rfl rfl (any_of HT_.out (by kernel_rfl)) (fun _ _ _ h => h) (Or.inl ⟨by rfl, ?_⟩) ?_ ?_
                                  rotate_left
                                  · intro w'
                                    go_simp
                                    with_reducible rfl
                                  rotate_left
                                  · simp only [Act.put, List.setIfInBounds_toArray, List.set_cons_zero, List.set_cons_succ, i64_w, i32_w]
                                    rfl
                                  refine pure_ (i := 11) (N := some 75) (v := ?_) (a' := ?_) #[true, true, true, true, true, true, true, true, true, true, true, true, false] rfl rfl (any_of HT_.out (by kernel_rfl)) (fun _ _ _ h => h) (Or.inl ⟨by rfl, ?_⟩) ?_ ?_
                                  rotate_left
                                  · intro w'
                                    go_simp
                                    with_reducible rfl
                                  rotate_left
                                  · simp only [Act.put, List.setIfInBounds_toArray, List.set_cons_zero, List.set_cons_succ, i64_w, i32_w]
                                    rfl
                                  refine last_ (i := 12) (N := none) #[true, true, true, true, true, true, true, true, true, true, true, true, true] rfl rfl (one_of HT_.out (by kernel_rfl)) (by decide) (fun K hK => ?_)
                                  refine skip_ (w1 := ?_) (by rfl) rfl ?_ ?_
                                  rotate_left
                                  · go_simp
                                    rfl
                                  refine hK.out _ _ ?_
                                  clear hK K
                                  refine done_ (done_of HT_.out (by kernel_rfl)) ?_
                                  try go_wp2
                                  go_roundg k3
                                  case measure => have := HK1.out; have := HK2.out; have := HK3.out; omega
                                  case rel => exact ⟨(y260), (wrap64 (x11_3 + 1)), (by first | rfl | (simp; done) | (simp [*]; done)), H', ⟨by have := HK1.out; have := HK2.out; have := HK3.out; omega⟩, ⟨by (with_reducible repeat (first | apply Kd.R_alloc | apply Kd.R_drewN | apply Kd.R_drew)); exact HQ34.out⟩, ⟨by (with_reducible repeat (first | apply Kd.R_alloc | apply Kd.R_drewN | apply Kd.R_drew)); exact Kd.R_mono (Kd.R_far (p := ⟨go30, (x11_3 : Int).toNat, none⟩) (Kd.R_mono HO_8.out (fun k_ hk => (⟨hk, fun e_ => hk (by rw [e_]; rfl)⟩ : _ ∧ k_ ≠ go30))) (fun _ hk => hk.2) (.int .u8 (Go.bits .xor .u8 (rd x6_3 x11_3) (rd x8_2 x11_3)))) (fun _ hk => hk.1)⟩, ⟨by repeat (first | (with_reducible first | exact HB.out | apply below_alloc | apply pw_below_drewN | apply below_drew1 | refine below_set ?_ GB30.out) | exact HB.out)⟩⟩
                                · rw [if_neg c29] at H
                                  exact absurd H (by simp)
                              · rw [if_neg c28] at H
                                exact absurd H (by simp)
                            · rw [if_neg c27] at H
                              have c27b0 : decide (x11_3 < (x8_2.length : Int)) = false := decide_eq_false c27
                              clear c27
                              have H' := Aside0.mk H
                              clear H
                              obtain ⟨Ao35, co35, eo35⟩ := Kd.R_slice HO_8.out
                              subst eo35
                              go_wp2
                              go_roundg k3
                              case measure => have := HK1.out; have := HK2.out; have := HK3.out; omega
                              case rel => exact ⟨(x6_3), (wrap64 (x7_1 + 1)), (by first | rfl | (simp; done) | (simp [*]; done)), H', ⟨by have := HK1.out; have := HK2.out; have := HK3.out; omega⟩, ⟨by (with_reducible repeat (first | apply Kd.R_alloc | apply Kd.R_drewN | apply Kd.R_drew)); exact Kd.R_mono HO_6.out (fun _ hk => trivial)⟩, ⟨by repeat (first | (with_reducible first | exact HB.out | apply below_alloc | apply pw_below_drewN | apply below_drew1) | exact HB.out)⟩⟩
                · rw [if_neg c11] at H
                  exact absurd H (by simp)
              · rw [if_neg c10] at H
                exact absurd H (by simp)
            · rw [if_neg c9] at H
              have c9b0 : decide (x7_1 < (l0.length : Int)) = false := decide_eq_false c9
              clear c9
              simp only [Option.some.injEq, Prod.mk.injEq] at H
              obtain ⟨rfl, rfl⟩ := H
              go_wp2
              go_ret2
              exact ⟨_, by first | rfl | (simp [errW_none, errW_some] <;> rfl) | (simp [*, errW_none, errW_some] <;> rfl), by (with_reducible repeat (first | apply Kd.R_alloc | apply Kd.R_drewN | apply Kd.R_drew)); exact HO_6.out, by repeat (first | (with_reducible first | exact HB.out | apply below_alloc | apply pw_below_drewN | apply below_drew1) | exact HB.out)⟩
      · rw [if_neg c6] at H
        exact absurd H (by simp)
    · rw [if_neg c5] at H
      exact absurd H (by simp)
  · replace c4 := Bool.eq_false_iff.mpr c4
    subst c4
    have H1 : (some (([] : List Int), 1)) = some (r1, r2) := by rw [if_neg (show ¬ (false = true) by decide)] at H; exact H
    clear H
    have H := H1
    clear H1
    simp only [Option.some.injEq, Prod.mk.injEq] at H
    obtain ⟨rfl, rfl⟩ := H
    go_enter Try.func53, Try.ntmps53
    go_wp2_with (first | ((with_reducible refine gate_callee (f := 57) rfl ?_); refine goesL_ (some 14) rfl rfl Try.func57 (by kernel_rfl) rfl #[.slice A0 l0.length c0, .slice A1 l1.length c1] rfl (by (try simp only [List.map_toArray, List.map_cons, List.map_nil]); first | done | rfl | (simp only [List.length_drop, List.length_take]; rfl)) ?_; (with_reducible refine (testamurref07_Points.calls k _ _ l0 _ _ l1 false _ ?side1 ?side2 ?side3 ?side4 A3.out).mono ?_); (case side1 => repeat (first | exact HR0.out | (with_reducible refine Kd.C_alloc ?_ _) | (with_reducible refine Kd.C_drewN ?_ _) | (with_reducible refine Kd.C_drew ?_))); (case side2 => exact HC0.out); (case side3 => repeat (first | exact HR1.out | (with_reducible refine Kd.C_alloc ?_ _) | (with_reducible refine Kd.C_drewN ?_ _) | (with_reducible refine Kd.C_drew ?_))); (case side4 => exact HC1.out); rintro e w' ⟨rfl, ⟨nd, rfl⟩⟩; refine ⟨_, rfl, ?_⟩))
    go_ret2
    exact ⟨_, by first | rfl | (simp [errW_none, errW_some] <;> rfl) | (simp [*, errW_none, errW_some] <;> rfl), by first | exact Kd.R_nil _ _ _ _ _ | exact Kd.N_nil _ _ _ _ _ | exact Kd.V_nil _ _ _ _ _ | exact Kd.Q_nil _ _ _ _ _ | exact Kd.S_nil _ _ _ _ _, by repeat (first | (with_reducible first | exact HB.out | apply below_alloc | apply pw_below_drewN | apply below_drew1) | exact HB.out)⟩
end Go.Proofs.Ytillfbohengpaaa.PA
end
section
set_option linter.unusedVariables false
set_option linter.unusedSimpArgs false
namespace Go.Proofs.Ytillfbohengpaaa
open Go.RowKit Gf Go.Proofs.YtillfbohengpaaaW.PrintWords PA
theorem xor_tI (a b : G) : Go.bits .xor .u8 (tI a) (tI b) = tI (a ^^^ b) := bits_xor_g a b
theorem mul_f (a b : G) : testamurref07_Mul.f (tI a) (tI b) = some (tI (mul a b)) := by
  unfold testamurref07_Mul.f
  rw [if_pos ⟨okB_tI a, okB_tI b⟩, gI_tI, gI_tI]
theorem fuel {k d : Nat} (h : d < k) : ∃ m, k = m + 1 := ⟨k - 1, by omega⟩
theorem evalr_l (l : List G) (x : G) (hl : l.length ≤ 100000) : ∀ d i k, i + d = l.length → d < k → testamurref07_Eval.l0 k (l.map tI) (tI x) (tI (evTo l x i)) (tI (pws x i)) (i : Int) = some (tI (ev l x)) := by
  intro d
  induction d with
  | zero =>
    intro i k hi hk
    obtain ⟨k, rfl⟩ := fuel hk
    simp only [testamurref07_Eval.l0]
    rw [if_neg (by rw [List.length_map]; omega)]
    obtain rfl : i = l.length := by omega
    rw [evTo_all]
  | succ d ih =>
    intro i k hi hk
    obtain ⟨k, rfl⟩ := fuel hk
    simp only [testamurref07_Eval.l0]
    rw [if_pos (by rw [List.length_map]; omega), if_pos (by omega), rd_map _ _ (by omega), mul_f]
    simp only [Option.bind_some]
    rw [mul_f]
    simp only [Option.bind_some]
    rw [xor_tI, w64 _ (by omega) (by omega)]
    exact ih (i + 1) k (by omega) (by omega)
theorem evalr_f (l : List G) (x : G) (hl : l.length ≤ 100000) (k : Nat) (hk : l.length < k) : testamurref07_Eval.f k (l.map tI) (tI x) = some (tI (ev l x)) := by
  unfold testamurref07_Eval.f
  exact evalr_l l x hl l.length 0 k (by omega) hk
end Go.Proofs.Ytillfbohengpaaa
end
section
set_option linter.unusedVariables false
set_option linter.unusedSimpArgs false
namespace Go.Proofs.Ytillfbohengpaaa
open Go.RowKit Gf Go.Sort Go.Proofs.YtillfbohengpaaaW.PrintWords PA
def joinAt (L : List Sh) (t at_ : Nat) : G := ev (coefs (xsG (L.take t)) (ysG (L.take t) at_)) 0#8
set_option maxRecDepth 100000 in
set_option maxHeartbeats 2000000 in
theorem join1_u (p q : Nat) (A : Option Addr) (n c t : Nat) (L : List Sh) (at_ : Nat) (w : World) (hp : w.cell? ⟨p, 0, none⟩ = some (.slice A n c)) (hq : w.cell? ⟨q, 0, none⟩ = some (.int .i64 (t : Int)))
    (hC : Kd.C k52 w A n (L.map sI)) (hc : n ≤ c) (ht : t ≤ n) (hn : n ≤ 1000) (hat : ∀ s ∈ L, at_ < s.da.length) (hnd : (xsG (L.take t)).Nodup) :
    Calls Try.prog 49 #[.int .i64 (at_ : Int), .pointer (some ⟨p, 0, none⟩), .pointer (some ⟨q, 0, none⟩)] w fun e w' => e = .returned (gv (joinAt L t at_)) ∧ Below w.heap.size w w' := by
  have htc : t ≤ c := by omega
  have HC := Lib.hid hC
  have hC2 := C_take hC ht
  rw [← List.map_take] at hC2
  have HC2 := Lib.hid hC2
  have HA := Lib.hid hat
  clear hC hC2 hat
  go_enter Try.func49, Try.ntmps49
  go_wp2_with fail
  refine (points_sh A _ t (L.take t) at_ w HC2.out htc (fun s hs => HA.out s (List.mem_of_mem_take hs)) (by omega)).mono ?_
  rintro e w1 ⟨⟨X, Y, cx, cy, rfl, hx, hy⟩, hb1⟩
  go_wp2_with fail
  refine (through_ok X Y cx cy t _ _ 0#8 w1 hx hy hnd (by omega)).mono ?_
  rintro e w2 ⟨rfl, hb2⟩
  go_wp2_with fail
  go_ret
  exact ⟨rfl, bthen hb1 hb2⟩
def RetBs (e : Ending) (w' : World) (base : Nat) (l : List G) (er : Int) : Prop := ∃ v, e = .returned (.tuple #[v, .int .i64 er]) ∧ Kd.R (Kd.int .u8) 5 w' base (fun _ => True) v (l.map tI)
theorem RetBs.none (w' : World) (base : Nat) (er : Int) : RetBs (.returned (.tuple #[.slice none 0 0, .int .i64 er])) w' base [] er := ⟨_, rfl, Kd.R_nil _ _ _ _ _⟩
def thN (L : List Sh) : Nat := match L with | [] => 0 | a :: _ => a.th.toNat
def dlN (L : List Sh) : Nat := match L with | [] => 0 | a :: _ => a.da.length
def joinE (L : List Sh) : Int := if checkR L = 0 then (if L.length < thN L then 80 else 0) else checkR L
def joinR (L : List Sh) : List G := if joinE L = 0 then (List.range (dlN L)).map (joinAt L (thN L)) else []
set_option maxRecDepth 100000 in
set_option maxHeartbeats 2000000 in
theorem join_u (A : Option Addr) (n c : Nat) (L : List Sh) (w : World) (hC : Kd.C k52 w A n (L.map sI)) (hc : n ≤ c) :
    Calls Try.prog 30 #[.slice A n c] w fun e w' => RetBs e w' w.heap.size (joinR L) (joinE L) ∧ Below w.heap.size w w' := by
  have hrs := rs_of_C hC
  by_cases hck : checkR L = 0
  case neg =>
    have hE : joinE L = checkR L := by simp [joinE, hck]
    have hR : joinR L = [] := by simp [joinR, hE, hck]
    rw [hE, hR]
    have HRS := Lib.hid hrs
    have d1 : (checkR L == 0) = false := by simp [hck]
    have d2 : (checkR L != 0) = true := by simp [hck]
    clear hrs hC hE hR hck
    go_enter Try.func30, Try.ntmps30
    go_wp2_with fail
    refine (check_u (HRS.out.below (below_alloc1 _ _))).mono ?_
    rintro e w1 ⟨rfl, hb1⟩
    go_wp2_with fail
    go_ret2
    exact ⟨RetBs.none _ _ _, bthen (below_alloc1 _ _) hb1⟩
  obtain ⟨a, r, rfl, hal, hep⟩ := check0 hck
  have hn := hC.1
  rw [List.length_map] at hn
  obtain ⟨t, ht⟩ : ∃ t : Nat, a.th = (t : Int) := ⟨a.th.toNat, by have := hal.t1; omega⟩
  have htn : thN (a :: r) = t := by simp [thN, ht]
  have ht8 : t ≤ 8 := by have := hal.t2; have := hal.t3; omega
  have hlen8 : n ≤ 8 := by have := hal.len; have := hal.t3; omega
  obtain ⟨b, o, rfl, hb, hc0⟩ := hrs.at 0 (by rw [← hn]; simp)
  obtain ⟨x0, x1, c2, x3, Ad, nd, cd, c4, hda⟩ := hc0
  clear x0 x1 x3
  simp only [List.getElem_cons_zero, Nat.zero_mul, Nat.add_zero] at c2 c4 hda
  rw [ht] at c2
  obtain rfl : nd = a.da.length := hda.1.symm
  have hlen64 := hal.d
  have hda2 : ∀ s ∈ a :: r, s.da.length = a.da.length := fun s hs => (hal.all s hs).2.2.1
  have HAL := Lib.hid hal
  have HRS := Lib.hid hrs
  have HC := Lib.hid hC
  have HN := Lib.hid hn
  have HD := Lib.hid hda2
  have hni : (0 : Int) < (n : Int) := by have := hn; simp at this; omega
  by_cases hlt : n < t
  · have hE : joinE (a :: r) = 80 := by unfold joinE; rw [if_pos hck, htn, if_pos (by omega)]
    have hR : joinR (a :: r) = [] := by unfold joinR; rw [hE]; rfl
    rw [hE, hR]
    have d3 : decide ((n : Int) < (t : Int)) = true := decide_eq_true (by omega)
    have HCK := Lib.hid hck
    clear hrs hC hE hR hck hn hal hep hda hda2 htn ht
    go_enter Try.func30, Try.ntmps30
    go_wp2_with fail
    refine (check_u (HRS.out.below (below_alloc1 _ _))).mono ?_
    rintro e w1 ⟨rfl, hb1⟩
    rw [HCK.out]
    have hB1 := bthen (below_alloc1 w _) hb1
    have hc1 : w1.cell? ⟨w.heap.size, 0, none⟩ = some (.slice (some ⟨b, o, none⟩) n c) := pw_cell_below hb1 (by rw [cell_new _ _ _ _ _ _ rfl]; rfl)
    have hz1 : w.heap.size < w1.heap.size := World.block_lt_of_cell? _ _ hc1
    have hz2 : b < w1.heap.size := Nat.lt_of_lt_of_le hb hB1.size
    replace c2 := pw_cell_below hB1 c2
    go_wp2_with fail
    go_ret2
    exact ⟨RetBs.none _ _ _, balloc hB1 _⟩
  · have hE : joinE (a :: r) = 0 := by unfold joinE; rw [if_pos hck, htn, if_neg (by omega)]
    have hR : joinR (a :: r) = (List.range a.da.length).map (joinAt (a :: r) t) := by unfold joinR; rw [hE, htn]; rfl
    rw [hE, hR]
    have d3 : decide ((n : Int) < (t : Int)) = false := decide_eq_false (by omega)
    have HCK := Lib.hid hck
    clear hrs hC hE hR hck hn hal hep hda hda2 htn ht
    go_enter Try.func30, Try.ntmps30
    go_wp2_with fail
    refine (check_u (HRS.out.below (below_alloc1 _ _))).mono ?_
    rintro e w1 ⟨rfl, hb1⟩
    rw [HCK.out]
    have hB1 := bthen (below_alloc1 w _) hb1
    have hc1 : w1.cell? ⟨w.heap.size, 0, none⟩ = some (.slice (some ⟨b, o, none⟩) n c) := pw_cell_below hb1 (by rw [cell_new _ _ _ _ _ _ rfl]; rfl)
    have hz1 : w.heap.size < w1.heap.size := World.block_lt_of_cell? _ _ hc1
    have hz2 : b < w1.heap.size := Nat.lt_of_lt_of_le hb hB1.size
    replace c2 := pw_cell_below hB1 c2
    replace c4 := pw_cell_below hB1 c4
    go_wp2_with fail
    have hW : ∀ y : World, y = w1.alloc (.cells #[.int .i64 (t : Int)] 3) → Below w1.heap.size w1 y ∧ y.cell? ⟨w1.heap.size, 0, none⟩ = some (.int .i64 (t : Int)) := by
      rintro y rfl
      exact ⟨below_alloc1 _ _, by rw [cell_new _ _ _ _ _ _ rfl]; rfl⟩
    generalize hW0 : w1.alloc (.cells #[.int .i64 (t : Int)] 3) = W0
    obtain ⟨hb2, hq⟩ := hW W0 hW0.symm
    clear hW hW0
    have hB2 := bthen hB1 hb2
    refine (columns_u8 49 _ a.da.length (joinAt (a :: r) t) W0 (by omega) (callf Try.func49 (by kernel_rfl) rfl) (fun at_ W hat hBW => ?_)).mono ?_
    · exact join1_u _ _ (some ⟨b, o, none⟩) n c t (a :: r) at_ W (pw_cell_below hBW (pw_cell_below hb2 hc1)) (pw_cell_below hBW hq) (Kd.C_below HC.out (bthen hB2 hBW)) hc (by omega) (by omega) (fun s hs => by rw [HD.out s hs]; exact hat) (HAL.out.nodup_take t)
    rintro e w3 ⟨v, rfl, hov, hb3⟩
    have hR := R_of_own (ok := fun _ => True) (hov.rebase hB2.size) (fun _ _ => trivial)
    have hB3 := bthen hB2 hb3
    have HR := Lib.hid hR
    clear hR hov
    go_wp2_with fail
    go_ret2
    exact ⟨⟨v, rfl, HR.out⟩, hB3⟩
end Go.Proofs.Ytillfbohengpaaa
end
section
set_option linter.unusedVariables false
set_option linter.unusedSimpArgs false
namespace Go.Proofs.Ytillfbohengpaaa
open Go.RowKit Gf Go.Proofs.YtillfbohengpaaaW.PrintWords PA
def fewB (L : List Sh) : Bool := L.all (fun s => decide (s.da.length ≤ 70)) && decide (L.length ≤ 10)
theorem few_l (L : List Sh) (hl : L.length ≤ 9223372036854775807) : ∀ d i k, i + d = L.length → d < k → testamurref08_Few.l0 k (L.map sI) (i : Int) = some ((L.drop i).all (fun s => decide (s.da.length ≤ 70)) && decide (L.length ≤ 10)) := by
  intro d
  induction d with
  | zero =>
    intro i k hi hk
    obtain ⟨k, rfl⟩ := fuel hk
    simp only [testamurref08_Few.l0]
    rw [if_neg (by rw [List.length_map]; omega), List.drop_eq_nil_of_le (by omega), List.length_map]
    congr 1
    simp
    omega
  | succ d ih =>
    intro i k hi hk
    obtain ⟨k, rfl⟩ := fuel hk
    have hil : i < L.length := by omega
    simp only [testamurref08_Few.l0]
    rw [if_pos (by rw [List.length_map]; omega), if_pos (by omega), rdT_map L i hil, List.drop_eq_getElem_cons hil, List.all_cons]
    simp only [sI, List.length_map]
    by_cases h : (L[i].da.length : Int) > 70
    · rw [if_pos h, show decide (L[i].da.length ≤ 70) = false from decide_eq_false (by omega)]; rfl
    · rw [if_neg h, show decide (L[i].da.length ≤ 70) = true from decide_eq_true (by omega), w64 _ (by omega) (by omega), Bool.true_and]
      exact ih (i + 1) k (by omega) (by omega)
theorem few_f (L : List Sh) (hl : L.length ≤ 9223372036854775807) (k : Nat) (hk : L.length < k) : testamurref08_Few.f k (L.map sI) = some (fewB L) := by
  unfold testamurref08_Few.f fewB
  exact few_l L hl L.length 0 k (by omega) hk
theorem ralike_f (L : List Sh) : testamurref08_alike.f (L.map sI) = some (alikeB L) := by
  unfold testamurref08_alike.f
  rw [if_pos (okS_sI L), shG_map]
theorem rcheck_l (a : Sh) (r : List Sh) (hl : (a :: r).length ≤ 9223372036854775807) : ∀ d i k, i + d = (a :: r).length → d < k → testamurref08_Check.l0 k ((a :: r).map sI) (i : Int) = some (epR (epsB a ((a :: r).drop i))) := by
  intro d
  induction d with
  | zero =>
    intro i k hi hk
    obtain ⟨k, rfl⟩ := fuel hk
    simp only [testamurref08_Check.l0]
    rw [if_neg (by rw [List.length_map]; omega), List.drop_eq_nil_of_le (by omega)]
    rfl
  | succ d ih =>
    intro i k hi hk
    obtain ⟨k, rfl⟩ := fuel hk
    have hil : i < (a :: r).length := by omega
    have h0 := rdT_map (a :: r) 0 (by simp)
    have hz : rd_T52 ((a :: r).map sI) 0 = sI a := h0
    simp only [testamurref08_Check.l0]
    rw [if_pos (by rw [List.length_map]; omega), if_pos (by omega), if_pos (by rw [List.length_map]; simp <;> omega), rdT_map _ i hil, hz, List.drop_eq_getElem_cons hil]
    have hI := ih (i + 1) k (by omega) (by omega)
    generalize (a :: r)[i] = s at *
    have hcons : epsB a (s :: (a :: r).drop (i + 1)) = (epOk a s && epsB a ((a :: r).drop (i + 1))) := rfl
    rw [hcons]
    by_cases h1 : s.ep = a.ep
    · rw [if_pos (show (sI s).f0 = (sI a).f0 from h1)]
      by_cases h2 : s.ep < 0
      · rw [if_pos (show (sI s).f0 < 0 from h2), show epOk a s = false from by simp [epOk, h1]; omega]; rfl
      · rw [if_neg (show ¬ (sI s).f0 < 0 from h2)]
        by_cases h3 : s.ep > 1048576
        · rw [if_pos (show (sI s).f0 > 1048576 from h3), show epOk a s = false from by simp [epOk, h1]; omega]; rfl
        · rw [if_neg (show ¬ (sI s).f0 > 1048576 from h3), show epOk a s = true from by simp [epOk, h1]; omega, Bool.true_and, w64 _ (by omega) (by omega)]
          exact hI
    · rw [if_neg (show ¬ (sI s).f0 = (sI a).f0 from h1), show epOk a s = false from by simp [epOk, h1]]; rfl
theorem rcheck_f (L : List Sh) (hl : L.length ≤ 9223372036854775807) (k : Nat) (hk : L.length < k) : testamurref08_Check.f k (L.map sI) = some (checkR L) := by
  unfold testamurref08_Check.f
  rw [ralike_f]
  simp only [Option.bind_some]
  cases L with
  | nil => rfl
  | cons a r =>
    rw [checkR_cons]
    by_cases h : alikeB (a :: r) = true
    · rw [if_pos h, if_pos h]
      exact rcheck_l a r hl _ 0 k (by simp) hk
    · rw [if_neg h, if_neg h]
end Go.Proofs.Ytillfbohengpaaa
end
section
namespace Go.Proofs.Ytillfbohengpaaa.PA
open Go.RowKit Go.Proofs.YtillfbohengpaaaW.PrintWords Go.Proofs.YtillfbohengpaaaW.PrintLast Go.Proofs.YtillfbohengpaaaW.PrintMore
attribute [local go_sem] max2_int min2_int max_two min_two max_three min_three max_four min_four   -- for this text's walks alone
set_option linter.unusedVariables false
set_option linter.unusedSimpArgs false
def shares_Split.f (l0 : List Int) (a1 a2 a3 : Int) (l4 : List Int) : Option (List S52 × Int) :=
  if isB l0 = true ∧ isB l4 = true ∧ l0.length ≤ 100000 ∧ l4.length ≤ 100000 then
    (if splitErr l0.length l4.length a1 a2 a3 = 0 then some ((splitTo (l0.map gI) (l4.map gI) a1 (a2 - 1).toNat a3.toNat a3.toNat).map sI, 0) else some ([], splitErr l0.length l4.length a1 a2 a3))
  else none
theorem shares_Split.calls (A0 : Option Addr) (c0 : Nat) (l0 : List Int) (a1 a2 a3 : Int) (A4 : Option Addr) (c4 : Nat) (l4 : List Int) (r1 : List S52) (r2 : Int) (w : World) (hr0 : Kd.C (Kd.int .u8) w A0 l0.length l0) (hc0 : l0.length ≤ c0) (hr4 : Kd.C (Kd.int .u8) w A4 l4.length l4) (hc4 : l4.length ≤ c4) (h : shares_Split.f l0 a1 a2 a3 l4 = some (r1, r2)) :
    Calls Try.prog 25 #[.slice A0 l0.length c0, .int .i64 a1, .int .i64 a2, .int .i64 a3, .slice A4 l4.length c4] w fun e w' => ∃ v0_ : Value, e = .returned (.tuple #[v0_, .int .i64 r2]) ∧ Kd.S k52 52 w' w.heap.size (fun _ => True) v0_ r1 ∧ Below w.heap.size w w' := by
  unfold shares_Split.f at h
  split at h
  case isFalse => cases h
  rename_i ho
  obtain ⟨h0, h4, hn, hn2⟩ := ho
  obtain ⟨l, rfl⟩ := ex_isB h0
  obtain ⟨r, rfl⟩ := ex_isB h4
  rw [gI_map, gI_map] at h
  have hl := rl_of_C hr0
  have hr := rl_of_C hr4
  by_cases he : splitErr (l.map tI).length (r.map tI).length a1 a2 a3 = 0
  · rw [if_pos he] at h
    injection h with h
    injection h with e1 e2
    subst e1 e2
    have he' := he
    unfold splitErr at he'
    by_cases q1 : 64 < (l.map tI).length
    · rw [if_pos q1] at he'; cases he'
    rw [if_neg q1] at he'
    by_cases q2 : a2 < 1 ∨ a3 < a2 ∨ 8 < a3
    · rw [if_pos q2] at he'; cases he'
    rw [if_neg q2] at he'
    by_cases q3 : a1 < 0 ∨ 1048576 < a1
    · rw [if_pos q3] at he'; cases he'
    rw [if_neg q3] at he'
    by_cases q4 : ((r.map tI).length : Int) ≠ ((l.map tI).length : Int) * (a2 - 1)
    · rw [if_pos q4] at he'; cases he'
    obtain ⟨m, rfl⟩ : ∃ m : Nat, a2 = (m : Int) + 1 := ⟨(a2 - 1).toNat, by omega⟩
    obtain ⟨mn, rfl⟩ : ∃ mn : Nat, a3 = (mn : Int) := ⟨a3.toNat, by omega⟩
    have q5 : (r.map tI).length = (l.map tI).length * m := by
      have : ((m : Int) + 1 - 1) = (m : Int) := by omega
      rw [this] at q4
      have e := Decidable.of_not_not q4
      have e2 : (((l.map tI).length : Int)) * (m : Int) = (((l.map tI).length * m : Nat) : Int) := by simp
      rw [e2] at e
      omega
    refine (split_ok A0 A4 _ c0 _ c4 mn m l r a1 w hl hr hc4 (by omega) (by omega) (by omega) (by omega) (by omega) q5).mono ?_
    rintro e w' ⟨⟨v, rfl, hs⟩, hb⟩
    rw [show ((m : Int) + 1 - 1).toNat = m from by omega, Int.toNat_natCast]
    exact ⟨v, rfl, hs, hb⟩
  · rw [if_neg he] at h
    injection h with h
    injection h with e1 e2
    subst e1 e2
    refine (split_bad A0 A4 _ c0 _ c4 l r a1 a2 a3 w hl hr hn hn2 _ rfl he).mono ?_
    rintro e w' ⟨⟨v, rfl, hs⟩, hb⟩
    exact ⟨v, rfl, hs, hb⟩
end Go.Proofs.Ytillfbohengpaaa.PA
end
section
set_option linter.unusedVariables false
set_option linter.unusedSimpArgs false
namespace Go.Proofs.Ytillfbohengpaaa
open Go.RowKit Gf Go.Proofs.YtillfbohengpaaaW.PrintWords PA
theorem sameshare_f (s : S52) : testamurref08_SameShare.f s.f0 s.f1 s.f2 s.f3 s.f4 s.f0 s.f1 s.f2 s.f3 s.f4 = some true := by
  unfold testamurref08_SameShare.f
  rw [if_pos rfl, if_pos rfl, if_pos rfl, if_pos rfl, beq_self_eq_true]
theorem same_l (L : List S52) (hl : L.length ≤ 9223372036854775807) : ∀ d i k, i + d = L.length → d < k → testamurref08_Same.l0 k L L (i : Int) = some true := by
  intro d
  induction d with
  | zero =>
    intro i k hi hk
    obtain ⟨k, rfl⟩ := fuel hk
    simp only [testamurref08_Same.l0]
    rw [if_neg (by omega)]
  | succ d ih =>
    intro i k hi hk
    obtain ⟨k, rfl⟩ := fuel hk
    simp only [testamurref08_Same.l0]
    rw [if_pos (by omega), if_pos (by omega), if_pos (by omega), sameshare_f]
    simp only [Option.bind_some]
    rw [if_pos trivial, w64 _ (by omega) (by omega)]
    exact ih (i + 1) k (by omega) (by omega)
theorem same_f (L : List S52) (hl : L.length ≤ 9223372036854775807) (k : Nat) (hk : L.length < k) : testamurref08_Same.f k L L = some true := by
  unfold testamurref08_Same.f
  rw [if_pos rfl]
  exact same_l L hl L.length 0 k (by omega) hk
theorem ofNat_tI (i : Nat) (h : i ≤ 8) : ((i : Int) % 256) = tI (BitVec.ofNat 8 i) := by unfold tI; simp
theorem wmul (a m p : Nat) (h : p = a * m) (hp : p ≤ 1000000) : wrap64 ((a : Int) * (m : Int)) = (p : Int) := by
  have e : (a : Int) * (m : Int) = (p : Int) := by rw [h, Int.natCast_mul]
  rw [e]; exact w64 _ (by omega) (by omega)
theorem wsucc (a : Nat) (h : a ≤ 1000000) : wrap64 ((a : Int) + 1) = ((a + 1 : Nat) : Int) := by
  rw [w64 _ (by omega) (by omega)]; simp
theorem wpred (m : Nat) (h : m ≤ 1000000) : wrap64 ((m : Int) + 1 - 1) = (m : Int) := by
  rw [w64 _ (by omega) (by omega)]; omega
theorem line_map (l r : List G) (m at_ p : Nat) (hp : p = at_ * m) (ha : at_ < l.length) : [rd (l.map tI) (at_ : Int)] ++ (((r.map tI).take (p + m)).drop p) = (lineG l r m at_).map tI := by
  rw [rd_map _ _ ha, ← List.map_take, ← List.map_drop, List.drop_take, show p + m - p = m from by omega, hp]
  rfl
theorem rsplit_l1 (l r : List G) (ep : Int) (m mn i : Nat) (acc : List S52) (R : Option (List S52 × Int)) (K0 : Nat) (hl : l.length ≤ 64) (hm : m ≤ 7) (hi : i ≤ 8) (hr : r.length = l.length * m) (hr5 : r.length ≤ 500) (hacc : acc.length ≤ 100)
    (hK : ∀ k, K0 ≤ k → testamurref08_Split.l0 k (l.map tI) ep ((m : Int) + 1) (mn : Int) (r.map tI) (acc ++ [(⟨ep, (i : Int), (m : Int) + 1, (mn : Int), (dataG l r m i).map tI⟩ : S52)]) ((i : Int) + 1) = R) :
    ∀ d at_ k, at_ + d = l.length → d + K0 + 1000 < k → testamurref08_Split.l1 k (l.map tI) ep ((m : Int) + 1) (mn : Int) (r.map tI) acc (i : Int) (at_ : Int) ep (i : Int) ((m : Int) + 1) (mn : Int) (((List.range at_).map fun j => ev (lineG l r m j) (BitVec.ofNat 8 i)).map tI) = R := by
  intro d
  induction d with
  | zero =>
    intro at_ k ha hk
    obtain ⟨k, rfl⟩ : ∃ q, k = q + 1 := ⟨k - 1, by omega⟩
    simp only [testamurref08_Split.l1]
    rw [if_neg (by rw [List.length_map]; omega), if_pos (by omega), w64 _ (by omega) (by omega)]
    obtain rfl : at_ = l.length := by omega
    exact hK k (by omega)
  | succ d ih =>
    intro at_ k ha hk
    obtain ⟨k, rfl⟩ : ∃ q, k = q + 1 := ⟨k - 1, by omega⟩
    have hat : at_ < l.length := by omega
    have hb2 : (at_ + 1) * m ≤ r.length := by rw [hr]; exact Nat.mul_le_mul_right _ hat
    have hb3 : (at_ + 1) * m = at_ * m + m := by rw [Nat.add_mul, Nat.one_mul]
    obtain ⟨p, hp⟩ : ∃ p, p = at_ * m := ⟨_, rfl⟩
    rw [← hp] at hb3
    rw [hb3] at hb2
    clear hr
    have hp3 : p ≤ 1000000 := by omega
    have hp4 : p + m ≤ 1000000 := by omega
    simp only [testamurref08_Split.l1]
    rw [if_pos (by rw [List.length_map]; omega), if_pos (by omega)]
    simp only [Option.bind_some, wpred m (by omega), wsucc at_ (by omega), wmul at_ m p hp hp3, wmul (at_ + 1) m (p + m) hb3.symm hp4, Int.toNat_natCast]
    clear hb3
    rw [if_pos (by omega), if_pos (by omega), if_pos (by rw [List.length_map]; omega), if_pos (by simp only [List.length_cons, List.length_nil, List.length_drop, List.length_take, List.length_map]; omega), line_map l r m at_ p hp hat, ofNat_tI i hi, evalr_f _ _ (by simp [lineG]; omega) k (by simp [lineG]; omega)]
    simp only [Option.bind_some]
    rw [if_pos (by simp; omega)]
    have h1 : ((List.range at_).map fun j => ev (lineG l r m j) (BitVec.ofNat 8 i)).map tI ++ [tI (ev (lineG l r m at_) (BitVec.ofNat 8 i))] = ((List.range (at_ + 1)).map fun j => ev (lineG l r m j) (BitVec.ofNat 8 i)).map tI := by
      rw [List.range_succ, List.map_append, List.map_append]; rfl
    rw [h1]
    exact ih (at_ + 1) k (by omega) (by clear hp hb2 hp3 hp4; omega)
theorem rsplit_l0 (l r : List G) (ep : Int) (m mn : Nat) (hl : l.length ≤ 64) (hm : m ≤ 7) (hmn : mn ≤ 8) (hr : r.length = l.length * m) : ∀ d i k, i + d = mn → (d + 1) * 2000 < k →
    testamurref08_Split.l0 k (l.map tI) ep ((m : Int) + 1) (mn : Int) (r.map tI) ((splitTo l r ep m mn i).map sI) ((i : Int) + 1) = some ((splitTo l r ep m mn mn).map sI, 0) := by
  intro d
  induction d with
  | zero =>
    intro i k hi hk
    obtain ⟨k, rfl⟩ : ∃ q, k = q + 1 := ⟨k - 1, by omega⟩
    simp only [testamurref08_Split.l0]
    rw [if_neg (by omega)]
    obtain rfl : i = mn := by omega
    rfl
  | succ d ih =>
    intro i k hi hk
    obtain ⟨k, rfl⟩ : ∃ q, k = q + 1 := ⟨k - 1, by omega⟩
    simp only [testamurref08_Split.l0]
    rw [if_pos (by omega)]
    have := rsplit_l1 l r ep m mn (i + 1) ((splitTo l r ep m mn i).map sI) (some ((splitTo l r ep m mn mn).map sI, 0)) ((d + 1) * 2000 + 1) hl hm (by omega) hr (by rw [hr]; exact Nat.le_trans (Nat.mul_le_mul hl hm) (by decide)) (by simp [splitTo]; omega) (fun k hk => by
      have := ih (i + 1) k (by omega) (Nat.lt_of_succ_le hk)
      rw [splitTo_succ, List.map_append] at this
      exact this) l.length 0 k (by omega) (by omega)
    exact this
theorem splitErr_zero {len coins : Nat} {ep th mn : Int} (h : splitErr len coins ep th mn = 0) : len ≤ 64 ∧ ∃ m n : Nat, th = (m : Int) + 1 ∧ mn = (n : Int) ∧ m + 1 ≤ n ∧ n ≤ 8 ∧ 0 ≤ ep ∧ ep ≤ 1048576 ∧ coins = len * m := by
  unfold splitErr at h
  by_cases q1 : 64 < len
  · rw [if_pos q1] at h; cases h
  rw [if_neg q1] at h
  by_cases q2 : th < 1 ∨ mn < th ∨ 8 < mn
  · rw [if_pos q2] at h; cases h
  rw [if_neg q2] at h
  by_cases q3 : ep < 0 ∨ 1048576 < ep
  · rw [if_pos q3] at h; cases h
  rw [if_neg q3] at h
  by_cases q4 : (coins : Int) ≠ (len : Int) * (th - 1)
  · rw [if_pos q4] at h; cases h
  refine ⟨by omega, (th - 1).toNat, mn.toNat, by omega, by omega, by omega, by omega, by omega, by omega, ?_⟩
  have e := Decidable.of_not_not q4
  have e2 : (len : Int) * (th - 1) = ((len * (th - 1).toNat : Nat) : Int) := by
    rw [Int.natCast_mul]; congr 1; omega
  omega
def splitV (l r : List G) (ep th mn : Int) : List Sh × Int := if splitErr l.length r.length ep th mn = 0 then (splitTo l r ep (th - 1).toNat mn.toNat mn.toNat, 0) else ([], splitErr l.length r.length ep th mn)
theorem split_f (l r : List G) (ep th mn : Int) (hl : l.length ≤ 100000) (hr : r.length ≤ 100000) : shares_Split.f (l.map tI) ep th mn (r.map tI) = some ((splitV l r ep th mn).1.map sI, (splitV l r ep th mn).2) := by
  unfold shares_Split.f splitV
  rw [if_pos ⟨isB_tI l, isB_tI r, by rw [List.length_map]; exact hl, by rw [List.length_map]; exact hr⟩, gI_map, gI_map, List.length_map, List.length_map]
  by_cases h : splitErr l.length r.length ep th mn = 0
  · rw [if_pos h, if_pos h]
  · rw [if_neg h, if_neg h]; rfl
theorem rsplit_f (l r : List G) (ep th mn : Int) (hl : l.length ≤ 100000) (hr : r.length ≤ 100000) (hth : -9223372036854775808 ≤ th ∧ th ≤ 9223372036854775807) (k : Nat) (hk : 20000 < k) : testamurref08_Split.f k (l.map tI) ep th mn (r.map tI) = some ((splitV l r ep th mn).1.map sI, (splitV l r ep th mn).2) := by
  obtain ⟨k, rfl⟩ : ∃ q, k = q + 2 := ⟨k - 2, by omega⟩
  unfold testamurref08_Split.f splitV
  rw [List.length_map]
  by_cases q1 : 64 < l.length
  · rw [if_pos (by omega)]
    have : splitErr l.length r.length ep th mn = 1 := by unfold splitErr; rw [if_pos q1]
    rw [this]; rfl
  rw [if_neg (by omega)]
  have j0 : ∀ b, (th < 1 ∨ mn < th ∨ 8 < mn) → b = true → testamurref08_Split.j0 (k + 2) (l.map tI) ep th mn (r.map tI) b = some ((if splitErr l.length r.length ep th mn = 0 then (splitTo l r ep (th - 1).toNat mn.toNat mn.toNat, (0 : Int)) else ([], splitErr l.length r.length ep th mn)).1.map sI, (if splitErr l.length r.length ep th mn = 0 then (splitTo l r ep (th - 1).toNat mn.toNat mn.toNat, (0 : Int)) else ([], splitErr l.length r.length ep th mn)).2) := by
    intro b hb hb2
    subst hb2
    have : splitErr l.length r.length ep th mn = 80 := by unfold splitErr; rw [if_neg q1, if_pos hb]
    rw [this]
    simp only [testamurref08_Split.j0]
    rfl
  by_cases c1 : th < 1
  · rw [if_pos c1]; exact j0 true (.inl c1) rfl
  rw [if_neg c1]
  by_cases c2 : mn < th
  · rw [if_pos c2]; exact j0 true (.inr (.inl c2)) rfl
  rw [if_neg (by omega)]
  by_cases c3 : 8 < mn
  · exact j0 _ (.inr (.inr c3)) (decide_eq_true (by omega))
  rw [show decide (mn > 8) = false from decide_eq_false (by omega)]
  have q2 : ¬ (th < 1 ∨ mn < th ∨ 8 < mn) := by omega
  have hj0 : ∀ x, testamurref08_Split.j0 (k + 2) (l.map tI) ep th mn (r.map tI) false = x ↔ (if ep < 0 then testamurref08_Split.j1 (k + 1) (l.map tI) ep th mn (r.map tI) true else testamurref08_Split.j1 (k + 1) (l.map tI) ep th mn (r.map tI) (decide (ep > 1048576))) = x := by
    intro x
    simp only [testamurref08_Split.j0]
    rw [if_neg (by decide)]
  rw [hj0]
  have j1 : ∀ b, (ep < 0 ∨ 1048576 < ep) → b = true → testamurref08_Split.j1 (k + 1) (l.map tI) ep th mn (r.map tI) b = some ((if splitErr l.length r.length ep th mn = 0 then (splitTo l r ep (th - 1).toNat mn.toNat mn.toNat, (0 : Int)) else ([], splitErr l.length r.length ep th mn)).1.map sI, (if splitErr l.length r.length ep th mn = 0 then (splitTo l r ep (th - 1).toNat mn.toNat mn.toNat, (0 : Int)) else ([], splitErr l.length r.length ep th mn)).2) := by
    intro b hb hb2
    subst hb2
    have : splitErr l.length r.length ep th mn = 81 := by unfold splitErr; rw [if_neg q1, if_neg q2, if_pos hb]
    rw [this]
    simp only [testamurref08_Split.j1]
    rfl
  by_cases c4 : ep < 0
  · rw [if_pos c4]; exact j1 true (.inl c4) rfl
  rw [if_neg c4]
  by_cases c5 : 1048576 < ep
  · exact j1 _ (.inr c5) (decide_eq_true c5)
  rw [show decide (ep > 1048576) = false from decide_eq_false (by omega)]
  simp only [testamurref08_Split.j1]
  rw [if_neg (by decide)]
  obtain ⟨m, rfl⟩ : ∃ m : Nat, th = (m : Int) + 1 := ⟨(th - 1).toNat, by omega⟩
  obtain ⟨n, rfl⟩ : ∃ n : Nat, mn = (n : Int) := ⟨mn.toNat, by omega⟩
  have hm7 : m ≤ 7 := by omega
  have hlm : l.length * m ≤ 448 := Nat.le_trans (Nat.mul_le_mul (show l.length ≤ 64 by omega) hm7) (by omega)
  rw [List.length_map, List.length_map, wpred m (by omega), wmul l.length m _ rfl (by omega)]
  have hse : splitErr l.length r.length ep ((m : Int) + 1) (n : Int) = if r.length = l.length * m then 0 else 1 := by
    unfold splitErr
    rw [if_neg q1, if_neg q2, if_neg (by omega), show ((m : Int) + 1 - 1) = (m : Int) by omega, show (l.length : Int) * (m : Int) = ((l.length * m : Nat) : Int) by simp]
    by_cases h : r.length = l.length * m
    · rw [if_pos h, if_neg (by omega)]
    · rw [if_neg h, if_pos (by omega)]
  rw [hse]
  by_cases h : r.length = l.length * m
  · rw [if_pos (by omega), if_pos h]
    have := rsplit_l0 l r ep m n (by omega) hm7 (by omega) h n 0 k (by omega) (by omega)
    rw [show ((m : Int) + 1 - 1).toNat = m by omega, Int.toNat_natCast]
    exact this
  · rw [if_neg (by omega), if_neg h]; rfl
end Go.Proofs.Ytillfbohengpaaa
end
section
set_option linter.unusedVariables false
set_option linter.unusedSimpArgs false
namespace Go.Proofs.Ytillfbohengpaaa
open Go.RowKit Gf Go.Sort Go.Proofs.YtillfbohengpaaaW.PrintWords PA
attribute [local go_sem] bits_gx
set_option maxRecDepth 100000 in
set_option maxHeartbeats 2000000 in
theorem refresh1_u (p q z : Nat) (A B : Option Addr) (n c n2 c2 i : Nat) (L Z : List Sh) (at_ : Nat) (w : World) (hp : w.cell? ⟨p, 0, none⟩ = some (.slice A n c)) (hq : w.cell? ⟨q, 0, none⟩ = some (.int .i64 (i : Int))) (hz : w.cell? ⟨z, 0, none⟩ = some (.slice B n2 c2))
    (hL : RS w A n L) (hZ : RS w B n2 Z) (hi : i < L.length) (hi2 : i < Z.length) (ha : at_ < L[i].da.length) (ha2 : at_ < Z[i].da.length) :
    Calls Try.prog 54 #[.int .i64 (at_ : Int), .pointer (some ⟨p, 0, none⟩), .pointer (some ⟨q, 0, none⟩), .pointer (some ⟨z, 0, none⟩)] w fun e w' => e = .returned (gv (gx (g L[i].da at_) (g Z[i].da at_))) ∧ Below w.heap.size w w' := by
  have hi' : i < n := by rw [← hL.1]; exact hi
  have hi2' : i < n2 := by rw [← hZ.1]; exact hi2
  obtain ⟨b, o, rfl, hb, x0, x1, x2, x3, Ad, nd, cd, c4, hda⟩ := hL.at i hi'
  obtain ⟨b', o', rfl, hb', y0, y1, y2, y3, Ad', nd', cd', d4, hda'⟩ := hZ.at i hi2'
  have hnd := hda.1
  have hnd' := hda'.1
  obtain ⟨bd, od, rfl, hbd, hcd⟩ := hda.atg at_ (by omega)
  obtain ⟨bd', od', rfl, hbd', hcd'⟩ := hda'.atg at_ (by omega)
  have e1 : (i : Int) < (n : Int) := by omega
  have e2 : (i : Int) < (n2 : Int) := by omega
  have e3 : (at_ : Int) < (nd : Int) := by omega
  have e4 : (at_ : Int) < (nd' : Int) := by omega
  generalize g L[i].da at_ = X at *
  generalize g Z[i].da at_ = Y at *
  clear x0 x1 x2 x3 y0 y1 y2 y3 hda hda' hL hZ ha ha2 hnd hnd'
  go_enter Try.func54, Try.ntmps54
  go_wp2_with fail
  go_quiet (fail)
  go_wp2_with fail
  go_ret
  exact ⟨rfl, bdrewN (Below.refl _ _) _⟩
end Go.Proofs.Ytillfbohengpaaa
end
