/-
  Texts of this session and laid words, merged in their order and pruned: PureE, PAtestamurlaw08SharesExplainSpec, LawExplainSpec.
-/
import Derived.Test.YtillfbohengpaaaKX4
import Derived.Test.YtillfbohengpaaaKX5
import Derived.Test.YtillfbohengpaaaKX2
import Derived.Test.YtillfbohengpaaaKX1
import Derived.Test.YtillfbohengpaaaKX3
section
set_option linter.unusedVariables false
set_option linter.unusedSimpArgs false
namespace Go.Proofs.Ytillfbohengpaaa
open Go.RowKit Gf Go.Proofs.YtillfbohengpaaaW.PrintWords PA
theorem prefresh_f (L : List Sh) (c : List G) (hc : c.length ≤ 100000) : shares_Refresh.f (L.map sI) (c.map tI) = some ((refreshR L c).map sI, refreshE L c) := by
  unfold shares_Refresh.f
  rw [if_pos ⟨okS_sI L, isB_tI c, by rw [List.length_map]; exact hc⟩, shG_map, gI_map]
theorem rref_l1 (a : Sh) (r Z : List Sh) (i : Nat) (hi : i < (a :: r).length) (hz : i < Z.length) (acc : List S52) (R : Option (List S52 × Int)) (K0 : Nat) (h64 : a.da.length ≤ 64) (hi8 : (a :: r).length ≤ 8) (hacc : acc.length ≤ 100)
    (hs : (a :: r)[i].da.length = a.da.length) (hzd : Z[i].da.length = a.da.length)
    (hK : ∀ k, K0 ≤ k → testamurref08_Refresh.l0 k ((a :: r).map sI) (Z.map sI) (acc ++ [sI (nextSh (a :: r)[i] Z[i])]) ((i : Int) + 1) a.ep a.ix a.th a.mn (a.da.map tI) = R) :
    ∀ d j k, j + d = a.da.length → d + K0 < k → testamurref08_Refresh.l1 k ((a :: r).map sI) (Z.map sI) acc (i : Int) (j : Int) a.ep a.ix a.th a.mn (a.da.map tI) ((a :: r)[i].ep + 1) (a :: r)[i].ix (a :: r)[i].th (a :: r)[i].mn (((List.range j).map fun q => gx (g (a :: r)[i].da q) (g Z[i].da q)).map tI) = R := by
  have e1 := rdT_map (a :: r) i hi
  have e2 := rdT_map Z i hz
  have hx : nextSh (a :: r)[i] Z[i] = ⟨(a :: r)[i].ep + 1, (a :: r)[i].ix, (a :: r)[i].th, (a :: r)[i].mn, (List.range a.da.length).map fun q => gx (g (a :: r)[i].da q) (g Z[i].da q)⟩ := by rw [nextSh, hs]
  have hnx : sI (nextSh (a :: r)[i] Z[i]) = ⟨(a :: r)[i].ep + 1, (a :: r)[i].ix, (a :: r)[i].th, (a :: r)[i].mn, ((List.range a.da.length).map fun q => gx (g (a :: r)[i].da q) (g Z[i].da q)).map tI⟩ := by rw [hx]; rfl
  rw [hnx] at hK
  clear hx hnx
  generalize (a :: r)[i] = s at *
  generalize Z[i] = z at *
  intro d
  induction d with
  | zero =>
    intro j k hj hk
    obtain ⟨k, rfl⟩ : ∃ q, k = q + 1 := ⟨k - 1, by omega⟩
    simp only [testamurref08_Refresh.l1]
    rw [if_neg (by rw [List.length_map]; omega), if_pos (by omega), w64 _ (by omega) (by omega)]
    obtain rfl : j = a.da.length := by omega
    exact hK k (by omega)
  | succ d ih =>
    intro j k hj hk
    obtain ⟨k, rfl⟩ : ∃ q, k = q + 1 := ⟨k - 1, by omega⟩
    have hj1 : j < s.da.length := by omega
    have hj2 : j < z.da.length := by omega
    simp only [testamurref08_Refresh.l1, e1, e2]
    rw [if_pos (by rw [List.length_map]; omega), if_pos (by omega), if_pos (by rw [List.length_map]; omega), if_pos (by omega), if_pos (by simp only [sI, List.length_map]; omega), if_pos (by rw [List.length_map]; omega), if_pos (by simp only [sI, List.length_map]; omega), if_pos (by simp only [List.length_map, List.length_range]; omega)]
    simp only [sI]
    rw [rd_map _ _ hj1, rd_map _ _ hj2, xor_tI, w64 _ (by omega) (by omega)]
    have h1 : ((List.range j).map fun q => gx (g s.da q) (g z.da q)).map tI ++ [tI (g s.da j ^^^ g z.da j)] = ((List.range (j + 1)).map fun q => gx (g s.da q) (g z.da q)).map tI := by
      rw [List.range_succ, List.map_append, List.map_append]; rfl
    rw [h1]
    exact ih (j + 1) k (by omega) (by omega)
theorem rref_l0 (a : Sh) (r Z : List Sh) (h64 : a.da.length ≤ 64) (hi8 : (a :: r).length ≤ 8) (hZ : Z.length = (a :: r).length) (hs : ∀ s ∈ a :: r, s.da.length = a.da.length ∧ 0 ≤ s.ep ∧ s.ep ≤ 1048576) (hzd : ∀ s ∈ Z, s.da.length = a.da.length) : ∀ d i, i + d = (a :: r).length → ∃ K, ∀ k, K ≤ k →
    testamurref08_Refresh.l0 k ((a :: r).map sI) (Z.map sI) ((nextTo (a :: r) Z i).map sI) (i : Int) a.ep a.ix a.th a.mn (a.da.map tI) = some ((nextTo (a :: r) Z (a :: r).length).map sI, 0) := by
  intro d
  induction d with
  | zero =>
    intro i hi
    refine ⟨1, fun k hk => ?_⟩
    obtain ⟨k, rfl⟩ : ∃ q, k = q + 1 := ⟨k - 1, by omega⟩
    simp only [testamurref08_Refresh.l0]
    rw [if_neg (by rw [List.length_map]; omega)]
    obtain rfl : i = (a :: r).length := by omega
    rfl
  | succ d ih =>
    intro i hi
    obtain ⟨K0, hK0⟩ := ih (i + 1) (by omega)
    have hil : i < (a :: r).length := by omega
    have hiz : i < Z.length := by omega
    have hsi := hs _ (List.getElem_mem hil)
    have hzi := hzd _ (List.getElem_mem hiz)
    refine ⟨K0 + 200, fun k hk => ?_⟩
    obtain ⟨k, rfl⟩ : ∃ q, k = q + 1 := ⟨k - 1, by omega⟩
    simp only [testamurref08_Refresh.l0]
    rw [if_pos (by rw [List.length_map]; omega), if_pos (by omega), rdT_map _ i hil]
    have hep : wrap64 ((sI (a :: r)[i]).f0 + 1) = (a :: r)[i].ep + 1 := w64 _ (by show _ ≤ (a :: r)[i].ep + 1; omega) (by show (a :: r)[i].ep + 1 ≤ _; omega)
    rw [hep]
    have hg1 : (a :: r).getD i ⟨0, 0, 0, 0, []⟩ = (a :: r)[i] := by rw [List.getD_eq_getElem?_getD, List.getElem?_eq_getElem hil]; rfl
    have hg2 : Z.getD i ⟨0, 0, 0, 0, []⟩ = Z[i] := by rw [List.getD_eq_getElem?_getD, List.getElem?_eq_getElem hiz]; rfl
    have := rref_l1 a r Z i hil hiz ((nextTo (a :: r) Z i).map sI) _ K0 h64 hi8 (by simp [nextTo]; omega) hsi.1 hzi (fun k hk => by
      have := hK0 k hk
      rw [nextTo_succ, List.map_append, hg1, hg2] at this
      exact this) a.da.length 0 k (by omega) (by omega)
    exact this
theorem rrefresh_f (L : List Sh) (c : List G) (hl : L.length ≤ 100000) (hc : c.length ≤ 100000) : ∃ K, ∀ k, K ≤ k → testamurref08_Refresh.f k (L.map sI) (c.map tI) = some ((refreshR L c).map sI, refreshE L c) := by
  by_cases hck : checkR L = 0
  case neg =>
    refine ⟨L.length + 1, fun k hk => ?_⟩
    have hE : refreshE L c = checkR L := by simp [refreshE, hck]
    have hR : refreshR L c = [] := by simp [refreshR, hE, hck]
    unfold testamurref08_Refresh.f
    rw [rcheck_f L (by omega) k (by omega)]
    simp only [Option.bind_some]
    rw [if_neg hck, hE, hR]; rfl
  obtain ⟨a, r, rfl, hal, hep⟩ := check0 hck
  obtain ⟨t, ht⟩ : ∃ t : Nat, a.th = (t : Int) + 1 := ⟨(a.th - 1).toNat, by have := hal.t1; omega⟩
  obtain ⟨m, hm⟩ : ∃ m : Nat, a.mn = (m : Int) := ⟨a.mn.toNat, by have := hal.t1; have := hal.t2; omega⟩
  have hz : rd_T52 ((a :: r).map sI) 0 = sI a := rdT_map (a :: r) 0 (by simp)
  have hmn : mnN (a :: r) = m := by simp [mnN, hm]
  have hthn : thN (a :: r) = t + 1 := by simp [thN, ht]
  have hdl : dlN (a :: r) = a.da.length := rfl
  have hlen := hal.len
  have h64 := hal.d
  have h8 := hal.t3
  have h2 := hal.t2
  have base : ∀ k, (a :: r).length < k → testamurref08_Refresh.f k ((a :: r).map sI) (c.map tI) =
      if ((a :: r).length : Int) = (m : Int) then (if a.ep = 1048576 then (some (([] : List (S52)), 81)) else ((testamurref08_Split.f k ((List.replicate a.da.length 0#8).map tI) 0 ((t : Int) + 1) (m : Int) (c.map tI)).bind fun bt => (if bt.2 = 0 then (testamurref08_Refresh.l0 k ((a :: r).map sI) bt.1 ([] : List (S52)) 0 a.ep a.ix a.th a.mn (a.da.map tI)) else (some (([] : List (S52)), bt.2))))) else (some (([] : List (S52)), 80)) := by
    intro k hk
    unfold testamurref08_Refresh.f
    rw [rcheck_f _ (by omega) k (by omega)]
    simp only [Option.bind_some]
    rw [if_pos hck, if_pos (by rw [List.length_map]; simp <;> omega), hz]
    simp only [show (sI a).f3 = (m : Int) from hm, show (sI a).f2 = (t : Int) + 1 from ht, show (sI a).f0 = a.ep from rfl, show (sI a).f1 = a.ix from rfl, show (sI a).f4 = a.da.map tI from rfl, List.length_map, Int.toNat_natCast]
    rw [if_pos (show (0 : Int) ≤ (a.da.length : Int) by omega), if_pos (show a.da.length ≤ 281474976710656 by omega), show List.replicate a.da.length (0 : Int) = (List.replicate a.da.length 0#8).map tI from by simp [List.map_replicate, tI]]
    rw [ht, hm]
  by_cases q1 : (a :: r).length = m
  case neg =>
    refine ⟨(a :: r).length + 1, fun k hk => ?_⟩
    have hE : refreshE (a :: r) c = 80 := by unfold refreshE; rw [if_pos hck, if_pos (by rw [hmn]; exact q1)]
    have hR : refreshR (a :: r) c = [] := by unfold refreshR; rw [hE]; rfl
    rw [base k (by omega), if_neg (by omega), hE, hR]; rfl
  by_cases q2 : a.ep = 1048576
  · refine ⟨(a :: r).length + 1, fun k hk => ?_⟩
    have hE : refreshE (a :: r) c = 81 := by unfold refreshE; rw [if_pos hck, if_neg (by rw [hmn]; omega), if_pos (show epN (a :: r) = 1048576 from q2)]
    have hR : refreshR (a :: r) c = [] := by unfold refreshR; rw [hE]; rfl
    rw [base k (by omega), if_pos (by omega), if_pos q2, hE, hR]; rfl
  have hsp : ∀ k, 20000 < k → testamurref08_Split.f k ((List.replicate a.da.length 0#8).map tI) 0 ((t : Int) + 1) (m : Int) (c.map tI) = some ((splitV (List.replicate a.da.length 0#8) c 0 ((t : Int) + 1) (m : Int)).1.map sI, (splitV (List.replicate a.da.length 0#8) c 0 ((t : Int) + 1) (m : Int)).2) :=
    fun k hk => rsplit_f _ c 0 _ _ (by rw [List.length_replicate]; omega) hc (by omega) k hk
  have hse : splitErr (List.replicate a.da.length 0#8).length c.length 0 ((t : Int) + 1) (m : Int) = if c.length = a.da.length * t then 0 else 1 := by
    unfold splitErr
    rw [List.length_replicate, if_neg (by omega), if_neg (by omega), if_neg (by omega), show ((t : Int) + 1 - 1) = (t : Int) by omega, show (a.da.length : Int) * (t : Int) = ((a.da.length * t : Nat) : Int) by rw [Int.natCast_mul]]
    by_cases h : c.length = a.da.length * t
    · rw [if_pos h, if_neg (by omega)]
    · rw [if_neg h, if_pos (by omega)]
  by_cases q3 : c.length = a.da.length * t
  · rw [if_pos q3] at hse
    have hV : splitV (List.replicate a.da.length 0#8) c 0 ((t : Int) + 1) (m : Int) = (splitTo (List.replicate a.da.length 0#8) c 0 t m m, 0) := by
      unfold splitV
      rw [if_pos hse, show ((t : Int) + 1 - 1).toNat = t by omega, Int.toNat_natCast]
    have hE : refreshE (a :: r) c = 0 := by unfold refreshE; rw [if_pos hck, if_neg (by rw [hmn]; omega), if_neg (show ¬ epN (a :: r) = 1048576 from q2), hthn, hdl, Nat.add_sub_cancel, if_neg (by omega)]
    have hR : refreshR (a :: r) c = nextTo (a :: r) (splitTo (List.replicate a.da.length 0#8) c 0 t m m) (a :: r).length := by unfold refreshR zerosR; rw [hE, hthn, hdl, hmn, Nat.add_sub_cancel]; rfl
    obtain ⟨K, hK⟩ := rref_l0 a r (splitTo (List.replicate a.da.length 0#8) c 0 t m m) h64 (by omega) (by simp [splitTo, q1]) (fun s hs => ⟨(hal.all s hs).2.2.1, (hep s hs).2⟩) (fun s hs => by
      obtain ⟨j, _, rfl⟩ := List.mem_map.1 hs
      simp [shareG, dataG]) (a :: r).length 0 (by omega)
    refine ⟨K + (a :: r).length + 20001, fun k hk => ?_⟩
    rw [base k (by omega), if_pos (by omega), if_neg q2, hsp k (by omega), hV]
    simp only [Option.bind_some]
    rw [if_pos trivial, hE, hR]
    exact hK k (by omega)
  · rw [if_neg q3] at hse
    have hV : splitV (List.replicate a.da.length 0#8) c 0 ((t : Int) + 1) (m : Int) = ([], 1) := by
      unfold splitV
      rw [if_neg (by rw [hse]; decide), hse]
    have hE : refreshE (a :: r) c = 1 := by unfold refreshE; rw [if_pos hck, if_neg (by rw [hmn]; omega), if_neg (show ¬ epN (a :: r) = 1048576 from q2), hthn, hdl, Nat.add_sub_cancel, if_pos q3]
    have hR : refreshR (a :: r) c = [] := by unfold refreshR; rw [hE]; rfl
    refine ⟨(a :: r).length + 20001, fun k hk => ?_⟩
    rw [base k (by omega), if_pos (by omega), if_neg q2, hsp k (by omega), hV]
    simp only [Option.bind_some]
    rw [if_neg (by decide), hE, hR]; rfl
end Go.Proofs.Ytillfbohengpaaa
end
section
namespace Go.Proofs.Ytillfbohengpaaa.PA
open Go.RowKit Go.Proofs.YtillfbohengpaaaW.PrintWords Go.Proofs.YtillfbohengpaaaW.PrintLast Go.Proofs.YtillfbohengpaaaW.PrintMore
attribute [local go_sem] max2_int min2_int max_two min_two max_three min_three max_four min_four   -- for this text's walks alone
set_option linter.unusedVariables false
set_option linter.unusedSimpArgs false
def testamurlaw08_SharesExplainSpec.j0 : Nat → List (S52) → List Int → List Int → Bool → Option (Bool)
 | 0, _, _, _, _ => none
 | k + 1, x0, x1, x2, x29 => if x29 = true then (some true) else ((shares_Explain.f k x0 x1).bind fun bt318 => ((testamurref08_Explain.f k x0 x1).bind fun bt322 => ((shares_Refresh.f x0 x2).bind fun bt326 => ((testamurref08_Refresh.f k x0 x2).bind fun bt330 => (if (strOfNums bt318.1).toList = (strOfNums bt322.1).toList then (if bt318.2 = bt322.2 then ((testamurref08_Same.f k bt326.1 bt330.1).bind fun t334 => (if t334 = true then (some (bt326.2 == bt330.2)) else (some false))) else (some false)) else (some false))))))
def testamurlaw08_SharesExplainSpec.f (k : Nat) (l0 : List (S52)) (l1 : List Int) (l2 : List Int) : Option (Bool) := (testamurlaw08_sane.f).bind fun t316 => (if t316 = true then ((testamurref08_Few.f k l0).bind fun t317 => (if t317 = true then (if (l1.length : Int) > 70 then (testamurlaw08_SharesExplainSpec.j0 k l0 l1 l2 true) else (testamurlaw08_SharesExplainSpec.j0 k l0 l1 l2 (decide ((l2.length : Int) > 600)))) else (testamurlaw08_SharesExplainSpec.j0 k l0 l1 l2 true))) else (some false))
set_option maxHeartbeats 8000000 in
set_option maxRecDepth 100000 in
theorem testamurlaw08_SharesExplainSpec.calls (k : Nat) (A0 : Option Addr) (c0 : Nat) (l0 : List (S52)) (A1 : Option Addr) (c1 : Nat) (l1 : List Int) (A2 : Option Addr) (c2 : Nat) (l2 : List Int) (r : Bool) (w : World) (hr0 : Kd.C k52 w A0 l0.length l0) (hc0 : l0.length ≤ c0) (hr1 : Kd.C (Kd.int .u8) w A1 l1.length l1) (hc1 : l1.length ≤ c1) (hr2 : Kd.C (Kd.int .u8) w A2 l2.length l2) (hc2 : l2.length ≤ c2) (h : testamurlaw08_SharesExplainSpec.f k l0 l1 l2 = some r) :
 Calls Try.prog 10 #[.slice A0 l0.length c0, .slice A1 l1.length c1, .slice A2 l2.length c2] w fun e w' => e = .returned (.bool r) ∧ Below w.heap.size w w' := by
 have HR0 := Aside0.mk hr0
 have HC0 := Aside0.mk hc0
 clear hr0 hc0
 have HR1 := Aside0.mk hr1
 have HC1 := Aside0.mk hc1
 clear hr1 hc1
 have HR2 := Aside0.mk hr2
 have HC2 := Aside0.mk hc2
 clear hr2 hc2
 have HB := Aside0.mk (Below.refl w.heap.size w)
 have H : ((testamurlaw08_sane.f).bind fun t316 => (if t316 = true then ((testamurref08_Few.f k l0).bind fun t317 => (if t317 = true then (if (l1.length : Int) > 70 then (testamurlaw08_SharesExplainSpec.j0 k l0 l1 l2 true) else (testamurlaw08_SharesExplainSpec.j0 k l0 l1 l2 (decide ((l2.length : Int) > 600)))) else (testamurlaw08_SharesExplainSpec.j0 k l0 l1 l2 true))) else (some false))) = some r := h
 clear h
 replace H := Option.bind_eq_some_iff.mp H
 obtain ⟨t316, A40, H⟩ := H
 replace H : (if t316 = true then ((testamurref08_Few.f k l0).bind fun t317 => (if t317 = true then (if (l1.length : Int) > 70 then (testamurlaw08_SharesExplainSpec.j0 k l0 l1 l2 true) else (testamurlaw08_SharesExplainSpec.j0 k l0 l1 l2 (decide ((l2.length : Int) > 600)))) else (testamurlaw08_SharesExplainSpec.j0 k l0 l1 l2 true))) else (some false)) = some r := H
 have A4 := Aside0.mk A40
 clear A40
 by_cases c5 : t316 = true
 · subst c5
   have H1 : ((testamurref08_Few.f k l0).bind fun t317 => (if t317 = true then (if (l1.length : Int) > 70 then (testamurlaw08_SharesExplainSpec.j0 k l0 l1 l2 true) else (testamurlaw08_SharesExplainSpec.j0 k l0 l1 l2 (decide ((l2.length : Int) > 600)))) else (testamurlaw08_SharesExplainSpec.j0 k l0 l1 l2 true))) = some r := by rw [if_pos rfl] at H; exact H
   clear H
   have H := H1
   clear H1
   have HC6 := Aside0.mk H
   clear H
   go_enter Try.func10, Try.ntmps10
   go_upto_region 3 with (first | ((with_reducible refine gate_callee (f := 23) rfl ?_); refine goesL_ (some 15) rfl rfl Try.func23 (by kernel_rfl) rfl #[] rfl (by (try simp only [List.map_toArray, List.map_cons, List.map_nil]); first | done | rfl | (simp only [List.length_drop, List.length_take]; rfl)) ?_; (with_reducible refine (testamurlaw08_sane.calls  true _ A4.out).mono ?_); rintro e w7 ⟨rfl, hb⟩; refine ⟨_, rfl, ?_⟩; have n0_ := Aside0.mk (below_step (by repeat (first | (with_reducible first | exact HB.out | apply below_alloc | apply pw_below_drewN | apply below_drew1) | exact HB.out)) hb); clear HB; have HB := n0_; clear n0_; (try clear hb); (try clear hb2); (try clear hk); (try clear hi)))
   (try simp only [Act.put, List.setIfInBounds_toArray, List.set_cons_zero, List.set_cons_succ])
   go_cut [29] (fun v29 wc => ∃ (kq : Nat) (x29_5 : Bool), v29 = .bool x29_5 ∧ Aside0 (testamurlaw08_SharesExplainSpec.j0 kq l0 l1 l2 x29_5 = some r) ∧ Aside0 (kq ≤ k) ∧ Aside0 (Below w.heap.size w wc))
   case first =>
    have H := HC6.out
    clear HC6
    replace H := Option.bind_eq_some_iff.mp H
    obtain ⟨t317, A80, H⟩ := H
    replace H : (if t317 = true then (if (l1.length : Int) > 70 then (testamurlaw08_SharesExplainSpec.j0 k l0 l1 l2 true) else (testamurlaw08_SharesExplainSpec.j0 k l0 l1 l2 (decide ((l2.length : Int) > 600)))) else (testamurlaw08_SharesExplainSpec.j0 k l0 l1 l2 true)) = some r := H
    have A8 := Aside0.mk A80
    clear A80
    by_cases c9 : t317 = true
    · subst c9
      have H1 : (if (l1.length : Int) > 70 then (testamurlaw08_SharesExplainSpec.j0 k l0 l1 l2 true) else (testamurlaw08_SharesExplainSpec.j0 k l0 l1 l2 (decide ((l2.length : Int) > 600)))) = some r := by rw [if_pos rfl] at H; exact H
      clear H
      have H := H1
      clear H1
      by_cases c10 : (l1.length : Int) > 70
      · rw [if_pos c10] at H
        have c10b0 : decide (70 < (l1.length : Int)) = true := decide_eq_true c10
        have c10b1 : decide (70 < l1.length) = true := decide_eq_true (by omega)
        clear c10
        (first | rw [c10b0] | (simp only [i64_w, i32_w]; rw [c10b0]) | skip)
        have H' := Aside0.mk H
        clear H
        go_wp2_with (first | ((with_reducible refine gate_callee (f := 24) rfl ?_); refine goesL_ (some 18) rfl rfl Try.func24 (by kernel_rfl) rfl #[.slice A0 l0.length c0] rfl (by (try simp only [List.map_toArray, List.map_cons, List.map_nil]); first | done | rfl | (simp only [List.length_drop, List.length_take]; rfl)) ?_; (with_reducible refine (testamurref08_Few.calls k _ _ l0 true _ ?side1 ?side2 A8.out).mono ?_); (case side1 => repeat (first | exact (Kd.C_below HR0.out HB.out) | (with_reducible refine Kd.C_alloc ?_ _) | (with_reducible refine Kd.C_drewN ?_ _) | (with_reducible refine Kd.C_drew ?_))); (case side2 => exact HC0.out); rintro e w' ⟨rfl, ⟨nd, rfl⟩⟩; refine ⟨_, rfl, ?_⟩))
        go_meet
        case rel => exact ⟨_, (true), (by first | rfl | (simp; done) | (simp [*]; done)), H', ⟨by first | omega | exact Nat.le_refl _⟩, ⟨by repeat (first | (with_reducible first | exact HB.out | apply below_alloc | apply pw_below_drewN | apply below_drew1) | exact HB.out)⟩⟩
      · rw [if_neg c10] at H
        have c10b0 : decide (70 < (l1.length : Int)) = false := decide_eq_false c10
        have c10b1 : decide (70 < l1.length) = false := decide_eq_false (by omega)
        clear c10
        (first | rw [c10b0] | (simp only [i64_w, i32_w]; rw [c10b0]) | skip)
        have H' := Aside0.mk H
        clear H
        go_wp2_with (first | ((with_reducible refine gate_callee (f := 24) rfl ?_); refine goesL_ (some 18) rfl rfl Try.func24 (by kernel_rfl) rfl #[.slice A0 l0.length c0] rfl (by (try simp only [List.map_toArray, List.map_cons, List.map_nil]); first | done | rfl | (simp only [List.length_drop, List.length_take]; rfl)) ?_; (with_reducible refine (testamurref08_Few.calls k _ _ l0 true _ ?side1 ?side2 A8.out).mono ?_); (case side1 => repeat (first | exact (Kd.C_below HR0.out HB.out) | (with_reducible refine Kd.C_alloc ?_ _) | (with_reducible refine Kd.C_drewN ?_ _) | (with_reducible refine Kd.C_drew ?_))); (case side2 => exact HC0.out); rintro e w' ⟨rfl, ⟨nd, rfl⟩⟩; refine ⟨_, rfl, ?_⟩))
        go_meet
        case rel => exact ⟨_, (decide ((l2.length : Int) > 600)), (by first | rfl | (simp; done) | (simp [*]; done)), H', ⟨by first | omega | exact Nat.le_refl _⟩, ⟨by repeat (first | (with_reducible first | exact HB.out | apply below_alloc | apply pw_below_drewN | apply below_drew1) | exact HB.out)⟩⟩
    · replace c9 := Bool.eq_false_iff.mpr c9
      subst c9
      have H1 : (testamurlaw08_SharesExplainSpec.j0 k l0 l1 l2 true) = some r := by rw [if_neg (show ¬ (false = true) by decide)] at H; exact H
      clear H
      have H := H1
      clear H1
      have H' := Aside0.mk H
      clear H
      go_wp2_with (first | ((with_reducible refine gate_callee (f := 24) rfl ?_); refine goesL_ (some 18) rfl rfl Try.func24 (by kernel_rfl) rfl #[.slice A0 l0.length c0] rfl (by (try simp only [List.map_toArray, List.map_cons, List.map_nil]); first | done | rfl | (simp only [List.length_drop, List.length_take]; rfl)) ?_; (with_reducible refine (testamurref08_Few.calls k _ _ l0 false _ ?side1 ?side2 A8.out).mono ?_); (case side1 => repeat (first | exact (Kd.C_below HR0.out HB.out) | (with_reducible refine Kd.C_alloc ?_ _) | (with_reducible refine Kd.C_drewN ?_ _) | (with_reducible refine Kd.C_drew ?_))); (case side2 => exact HC0.out); rintro e w' ⟨rfl, ⟨nd, rfl⟩⟩; refine ⟨_, rfl, ?_⟩))
      go_meet
      case rel => exact ⟨_, (true), (by first | rfl | (simp; done) | (simp [*]; done)), H', ⟨by first | omega | exact Nat.le_refl _⟩, ⟨by repeat (first | (with_reducible first | exact HB.out | apply below_alloc | apply pw_below_drewN | apply below_drew1) | exact HB.out)⟩⟩
   case rest =>
    clear HC6
    try clear c1
    try clear c2
    try clear p2
    try clear c5
    try clear c9
    try clear c10
    try clear c10b0
    try clear c10b1
    obtain ⟨kq, x29_5, rfl, HA, HJ5, HB⟩ := hcut
    cases kq with
    | zero => exact absurd HA.out (by simp [testamurlaw08_SharesExplainSpec.j0])
    | succ kj5 =>
     have H := HA.out
     clear HA
     simp only [testamurlaw08_SharesExplainSpec.j0] at H
     by_cases c11 : x29_5 = true
     · subst c11
       have H1 : (some true) = some r := by rw [if_pos rfl] at H; exact H
       clear H
       have H := H1
       clear H1
       obtain rfl := Option.some.inj H
       go_wp2
       go_ret
       exact ⟨by first | rfl | (simp [errW_none, errW_some] <;> rfl) | (simp [*, errW_none, errW_some] <;> rfl), by repeat (first | (with_reducible first | exact HB.out | apply below_alloc | apply pw_below_drewN | apply below_drew1) | exact HB.out)⟩
     · replace c11 := Bool.eq_false_iff.mpr c11
       subst c11
       have H1 : ((shares_Explain.f kj5 l0 l1).bind fun bt318 => ((testamurref08_Explain.f kj5 l0 l1).bind fun bt322 => ((shares_Refresh.f l0 l2).bind fun bt326 => ((testamurref08_Refresh.f kj5 l0 l2).bind fun bt330 => (if (strOfNums bt318.1).toList = (strOfNums bt322.1).toList then (if bt318.2 = bt322.2 then ((testamurref08_Same.f kj5 bt326.1 bt330.1).bind fun t334 => (if t334 = true then (some (bt326.2 == bt330.2)) else (some false))) else (some false)) else (some false)))))) = some r := by rw [if_neg (show ¬ (false = true) by decide)] at H; exact H
       clear H
       have H := H1
       clear H1
       replace H := Option.bind_eq_some_iff.mp H
       obtain ⟨⟨t318, t319⟩, A120, H⟩ := H
       replace H : ((testamurref08_Explain.f kj5 l0 l1).bind fun bt322 => ((shares_Refresh.f l0 l2).bind fun bt326 => ((testamurref08_Refresh.f kj5 l0 l2).bind fun bt330 => (if (strOfNums t318).toList = (strOfNums bt322.1).toList then (if t319 = bt322.2 then ((testamurref08_Same.f kj5 bt326.1 bt330.1).bind fun t334 => (if t334 = true then (some (bt326.2 == bt330.2)) else (some false))) else (some false)) else (some false))))) = some r := H
       have A12 := Aside0.mk A120
       clear A120
       replace H := Option.bind_eq_some_iff.mp H
       obtain ⟨⟨t322, t323⟩, A130, H⟩ := H
       replace H : ((shares_Refresh.f l0 l2).bind fun bt326 => ((testamurref08_Refresh.f kj5 l0 l2).bind fun bt330 => (if (strOfNums t318).toList = (strOfNums t322).toList then (if t319 = t323 then ((testamurref08_Same.f kj5 bt326.1 bt330.1).bind fun t334 => (if t334 = true then (some (bt326.2 == bt330.2)) else (some false))) else (some false)) else (some false)))) = some r := H
       have A13 := Aside0.mk A130
       clear A130
       replace H := Option.bind_eq_some_iff.mp H
       obtain ⟨⟨t326, t327⟩, A140, H⟩ := H
       replace H : ((testamurref08_Refresh.f kj5 l0 l2).bind fun bt330 => (if (strOfNums t318).toList = (strOfNums t322).toList then (if t319 = t323 then ((testamurref08_Same.f kj5 t326 bt330.1).bind fun t334 => (if t334 = true then (some (t327 == bt330.2)) else (some false))) else (some false)) else (some false))) = some r := H
       have A14 := Aside0.mk A140
       clear A140
       replace H := Option.bind_eq_some_iff.mp H
       obtain ⟨⟨t330, t331⟩, A150, H⟩ := H
       replace H : (if (strOfNums t318).toList = (strOfNums t322).toList then (if t319 = t323 then ((testamurref08_Same.f kj5 t326 t330).bind fun t334 => (if t334 = true then (some (t327 == t331)) else (some false))) else (some false)) else (some false)) = some r := H
       have A15 := Aside0.mk A150
       clear A150
       by_cases c16 : (strOfNums t318).toList = (strOfNums t322).toList
       · rw [if_pos c16] at H
         have c16b0 : ((strOfNums t318).toList == (strOfNums t322).toList) = true := beq_iff_eq.mpr c16
         have c16b1 : ((strOfNums t318).toList != (strOfNums t322).toList) = false := bne_eq_false_iff_eq.mpr c16
         clear c16
         by_cases c17 : t319 = t323
         · rw [if_pos c17] at H
           have c17b0 : (t319 == t323) = true := beq_iff_eq.mpr c17
           have c17b1 : (t319 != t323) = false := bne_eq_false_iff_eq.mpr c17
           clear c17
           replace H := Option.bind_eq_some_iff.mp H
           obtain ⟨t334, A180, H⟩ := H
           replace H : (if t334 = true then (some (t327 == t331)) else (some false)) = some r := H
           have A18 := Aside0.mk A180
           clear A180
           by_cases c19 : t334 = true
           · subst c19
             have H1 : (some (t327 == t331)) = some r := by rw [if_pos rfl] at H; exact H
             clear H
             have H := H1
             clear H1
             obtain rfl := Option.some.inj H
             go_wp2_with (first | ((with_reducible refine gate_callee (f := 32) rfl ?_); refine goesL_ (some 33) rfl rfl Try.func32 (by kernel_rfl) rfl #[.slice A0 l0.length c0, .slice A1 l1.length c1] rfl (by (try simp only [List.map_toArray, List.map_cons, List.map_nil]); first | done | rfl | (simp only [List.length_drop, List.length_take]; rfl)) ?_; (with_reducible refine (shares_Explain.calls kj5 _ _ l0 _ _ l1 t318 t319 _ ?side1 ?side2 ?side3 ?side4 A12.out).mono ?_); (case side1 => repeat (first | exact (Kd.C_below HR0.out HB.out) | (with_reducible refine Kd.C_alloc ?_ _) | (with_reducible refine Kd.C_drewN ?_ _) | (with_reducible refine Kd.C_drew ?_))); (case side2 => exact HC0.out); (case side3 => repeat (first | exact (Kd.C_below HR1.out HB.out) | (with_reducible refine Kd.C_alloc ?_ _) | (with_reducible refine Kd.C_drewN ?_ _) | (with_reducible refine Kd.C_drew ?_))); (case side4 => exact HC1.out); rintro e w20 ⟨v320, rfl, ho0, hb⟩; refine ⟨_, rfl, ?_⟩; have n0_ := Aside0.mk (Kd.R_lower ho0 (below_size (by repeat (first | (with_reducible first | exact HB.out | apply below_alloc | apply pw_below_drewN | apply below_drew1) | exact HB.out)))); have n1_ := Aside0.mk (below_step (by repeat (first | (with_reducible first | exact HB.out | apply below_alloc | apply pw_below_drewN | apply below_drew1) | exact HB.out)) hb); clear HB; have HO321 := n0_; have HB := n1_; clear n0_ n1_; (try clear hb); (try clear hb2); (try clear hk); (try clear hi); (try clear ho0)) | ((with_reducible refine gate_callee (f := 33) rfl ?_); refine goesL_ (some 39) rfl rfl Try.func33 (by kernel_rfl) rfl #[.slice A0 l0.length c0, .slice A1 l1.length c1] rfl (by (try simp only [List.map_toArray, List.map_cons, List.map_nil]); first | done | rfl | (simp only [List.length_drop, List.length_take]; rfl)) ?_; (with_reducible refine (testamurref08_Explain.calls kj5 _ _ l0 _ _ l1 t322 t323 _ ?side1 ?side2 ?side3 ?side4 A13.out).mono ?_); (case side1 => repeat (first | exact (Kd.C_below HR0.out HB.out) | (with_reducible refine Kd.C_alloc ?_ _) | (with_reducible refine Kd.C_drewN ?_ _) | (with_reducible refine Kd.C_drew ?_))); (case side2 => exact HC0.out); (case side3 => repeat (first | exact (Kd.C_below HR1.out HB.out) | (with_reducible refine Kd.C_alloc ?_ _) | (with_reducible refine Kd.C_drewN ?_ _) | (with_reducible refine Kd.C_drew ?_))); (case side4 => exact HC1.out); rintro e w21 ⟨v324, rfl, ho0, hb⟩; refine ⟨_, rfl, ?_⟩; have n0_ := Aside0.mk (Kd.R_elder' (by (with_reducible repeat (first | apply Kd.R_alloc | apply Kd.R_drewN | apply Kd.R_drew)); exact HO321.out) (Kd.R_base ho0) hb); have n1_ := Aside0.mk (Kd.R_lower (Kd.R_new' ho0 (Kd.R_lt (by (with_reducible repeat (first | apply Kd.R_alloc | apply Kd.R_drewN | apply Kd.R_drew)); exact HO321.out))) (below_size (by repeat (first | (with_reducible first | exact HB.out | apply below_alloc | apply pw_below_drewN | apply below_drew1) | exact HB.out)))); have n2_ := Aside0.mk (below_step (by repeat (first | (with_reducible first | exact HB.out | apply below_alloc | apply pw_below_drewN | apply below_drew1) | exact HB.out)) hb); clear HO321; clear HB; have HO321 := n0_; have HO325 := n1_; have HB := n2_; clear n0_ n1_ n2_; (try clear hb); (try clear hb2); (try clear hk); (try clear hi); (try clear ho0)) | ((with_reducible refine gate_callee (f := 34) rfl ?_); refine goesL_ (some 45) rfl rfl Try.func34 (by kernel_rfl) rfl #[.slice A0 l0.length c0, .slice A2 l2.length c2] rfl (by (try simp only [List.map_toArray, List.map_cons, List.map_nil]); first | done | rfl | (simp only [List.length_drop, List.length_take]; rfl)) ?_; (with_reducible refine (shares_Refresh.calls _ _ l0 _ _ l2 t326 t327 _ ?side1 ?side2 ?side3 ?side4 A14.out).mono ?_); (case side1 => repeat (first | exact (Kd.C_below HR0.out HB.out) | (with_reducible refine Kd.C_alloc ?_ _) | (with_reducible refine Kd.C_drewN ?_ _) | (with_reducible refine Kd.C_drew ?_))); (case side2 => exact HC0.out); (case side3 => repeat (first | exact (Kd.C_below HR2.out HB.out) | (with_reducible refine Kd.C_alloc ?_ _) | (with_reducible refine Kd.C_drewN ?_ _) | (with_reducible refine Kd.C_drew ?_))); (case side4 => exact HC2.out); rintro e w22 ⟨v328, rfl, ho0, hb⟩; refine ⟨_, rfl, ?_⟩; have n0_ := Aside0.mk (Kd.R_below (by (with_reducible repeat (first | apply Kd.R_alloc | apply Kd.R_drewN | apply Kd.R_drew)); exact HO321.out) hb); have n1_ := Aside0.mk (Kd.R_below (by (with_reducible repeat (first | apply Kd.R_alloc | apply Kd.R_drewN | apply Kd.R_drew)); exact HO325.out) hb); have n2_ := Aside0.mk (Kd.S_lower (Kd.S_new' (Kd.S_new' ho0 (Kd.R_lt (by (with_reducible repeat (first | apply Kd.R_alloc | apply Kd.R_drewN | apply Kd.R_drew)); exact HO321.out))) (Kd.R_lt (by (with_reducible repeat (first | apply Kd.R_alloc | apply Kd.R_drewN | apply Kd.R_drew)); exact HO325.out))) (below_size (by repeat (first | (with_reducible first | exact HB.out | apply below_alloc | apply pw_below_drewN | apply below_drew1) | exact HB.out)))); have n3_ := Aside0.mk (below_step (by repeat (first | (with_reducible first | exact HB.out | apply below_alloc | apply pw_below_drewN | apply below_drew1) | exact HB.out)) hb); clear HO321; clear HO325; clear HB; have HO321 := n0_; have HO325 := n1_; have HO329 := n2_; have HB := n3_; clear n0_ n1_ n2_ n3_; (try clear hb); (try clear hb2); (try clear hk); (try clear hi); (try clear ho0)) | ((with_reducible refine gate_callee (f := 35) rfl ?_); refine goesL_ (some 51) rfl rfl Try.func35 (by kernel_rfl) rfl #[.slice A0 l0.length c0, .slice A2 l2.length c2] rfl (by (try simp only [List.map_toArray, List.map_cons, List.map_nil]); first | done | rfl | (simp only [List.length_drop, List.length_take]; rfl)) ?_; (with_reducible refine (testamurref08_Refresh.calls kj5 _ _ l0 _ _ l2 t330 t331 _ ?side1 ?side2 ?side3 ?side4 A15.out).mono ?_); (case side1 => repeat (first | exact (Kd.C_below HR0.out HB.out) | (with_reducible refine Kd.C_alloc ?_ _) | (with_reducible refine Kd.C_drewN ?_ _) | (with_reducible refine Kd.C_drew ?_))); (case side2 => exact HC0.out); (case side3 => repeat (first | exact (Kd.C_below HR2.out HB.out) | (with_reducible refine Kd.C_alloc ?_ _) | (with_reducible refine Kd.C_drewN ?_ _) | (with_reducible refine Kd.C_drew ?_))); (case side4 => exact HC2.out); rintro e w23 ⟨v332, rfl, ho0, hb⟩; refine ⟨_, rfl, ?_⟩; have n0_ := Aside0.mk (Kd.R_below (by (with_reducible repeat (first | apply Kd.R_alloc | apply Kd.R_drewN | apply Kd.R_drew)); exact HO321.out) hb); have n1_ := Aside0.mk (Kd.R_below (by (with_reducible repeat (first | apply Kd.R_alloc | apply Kd.R_drewN | apply Kd.R_drew)); exact HO325.out) hb); have n2_ := Aside0.mk (Kd.S_elder' (by (with_reducible repeat (first | apply Kd.S_alloc | apply Kd.S_drewN | apply Kd.S_drew)); exact HO329.out) (Kd.S_base ho0) hb); have n3_ := Aside0.mk (Kd.S_lower (Kd.S_new' (Kd.S_new' (Kd.S_new' ho0 (Kd.R_lt (by (with_reducible repeat (first | apply Kd.R_alloc | apply Kd.R_drewN | apply Kd.R_drew)); exact HO321.out))) (Kd.R_lt (by (with_reducible repeat (first | apply Kd.R_alloc | apply Kd.R_drewN | apply Kd.R_drew)); exact HO325.out))) (Kd.S_lt (by (with_reducible repeat (first | apply Kd.S_alloc | apply Kd.S_drewN | apply Kd.S_drew)); exact HO329.out))) (below_size (by repeat (first | (with_reducible first | exact HB.out | apply below_alloc | apply pw_below_drewN | apply below_drew1) | exact HB.out)))); have n4_ := Aside0.mk (below_step (by repeat (first | (with_reducible first | exact HB.out | apply below_alloc | apply pw_below_drewN | apply below_drew1) | exact HB.out)) hb); clear HO321; clear HO325; clear HO329; clear HB; have HO321 := n0_; have HO325 := n1_; have HO329 := n2_; have HO333 := n3_; have HB := n4_; clear n0_ n1_ n2_ n3_ n4_; (try clear hb); (try clear hb2); (try clear hk); (try clear hi); (try clear ho0); have hcv24 := own_string (P := Try.prog) Try.underlying30 Try.underlying5 Try.underlying9 (Kd.own_of_R HO321.out); have hcv25 := own_string (P := Try.prog) Try.underlying30 Try.underlying5 Try.underlying9 (Kd.own_of_R HO325.out); obtain ⟨Ao26, co26, eo26⟩ := Kd.S_slice HO329.out; subst eo26; obtain ⟨Ao27, co27, eo27⟩ := Kd.S_slice HO333.out; subst eo27) | (go_at_call 29; (with_reducible refine (testamurref08_Same.calls kj5 _ _ t326 _ _ t330 true _ ?side1 ?side2 ?side3 ?side4 A18.out).mono ?_); (case side1 => repeat (first | exact (Kd.S_reads' HO329.out).2.2 | (with_reducible refine Kd.C_alloc ?_ _) | (with_reducible refine Kd.C_drewN ?_ _) | (with_reducible refine Kd.C_drew ?_))); (case side2 => exact (Kd.S_reads' HO329.out).2.1); (case side3 => repeat (first | exact (Kd.S_reads' HO333.out).2.2 | (with_reducible refine Kd.C_alloc ?_ _) | (with_reducible refine Kd.C_drewN ?_ _) | (with_reducible refine Kd.C_drew ?_))); (case side4 => exact (Kd.S_reads' HO333.out).2.1); rintro e w28 ⟨rfl, hb⟩; have n0_ := Aside0.mk (Kd.R_below (by (with_reducible repeat (first | apply Kd.R_alloc | apply Kd.R_drewN | apply Kd.R_drew)); exact HO321.out) hb); have n1_ := Aside0.mk (Kd.R_below (by (with_reducible repeat (first | apply Kd.R_alloc | apply Kd.R_drewN | apply Kd.R_drew)); exact HO325.out) hb); have n2_ := Aside0.mk (Kd.S_below (by (with_reducible repeat (first | apply Kd.S_alloc | apply Kd.S_drewN | apply Kd.S_drew)); exact HO329.out) hb); have n3_ := Aside0.mk (Kd.S_below (by (with_reducible repeat (first | apply Kd.S_alloc | apply Kd.S_drewN | apply Kd.S_drew)); exact HO333.out) hb); have n4_ := Aside0.mk (below_step (by repeat (first | (with_reducible first | exact HB.out | apply below_alloc | apply pw_below_drewN | apply below_drew1) | exact HB.out)) hb); clear HO321; clear HO325; clear HO329; clear HO333; clear HB; have HO321 := n0_; have HO325 := n1_; have HO329 := n2_; have HO333 := n3_; have HB := n4_; clear n0_ n1_ n2_ n3_ n4_; (try clear hb); (try clear hb2); (try clear hk); (try clear hi)))
             go_ret
             exact ⟨by first | rfl | (simp [errW_none, errW_some] <;> rfl) | (simp [*, errW_none, errW_some] <;> rfl), by repeat (first | (with_reducible first | exact HB.out | apply below_alloc | apply pw_below_drewN | apply below_drew1) | exact HB.out)⟩
           · replace c19 := Bool.eq_false_iff.mpr c19
             subst c19
             have H1 : (some false) = some r := by rw [if_neg (show ¬ (false = true) by decide)] at H; exact H
             clear H
             have H := H1
             clear H1
             obtain rfl := Option.some.inj H
             go_wp2_with (first | ((with_reducible refine gate_callee (f := 32) rfl ?_); refine goesL_ (some 33) rfl rfl Try.func32 (by kernel_rfl) rfl #[.slice A0 l0.length c0, .slice A1 l1.length c1] rfl (by (try simp only [List.map_toArray, List.map_cons, List.map_nil]); first | done | rfl | (simp only [List.length_drop, List.length_take]; rfl)) ?_; (with_reducible refine (shares_Explain.calls kj5 _ _ l0 _ _ l1 t318 t319 _ ?side1 ?side2 ?side3 ?side4 A12.out).mono ?_); (case side1 => repeat (first | exact (Kd.C_below HR0.out HB.out) | (with_reducible refine Kd.C_alloc ?_ _) | (with_reducible refine Kd.C_drewN ?_ _) | (with_reducible refine Kd.C_drew ?_))); (case side2 => exact HC0.out); (case side3 => repeat (first | exact (Kd.C_below HR1.out HB.out) | (with_reducible refine Kd.C_alloc ?_ _) | (with_reducible refine Kd.C_drewN ?_ _) | (with_reducible refine Kd.C_drew ?_))); (case side4 => exact HC1.out); rintro e w29 ⟨v320, rfl, ho0, hb⟩; refine ⟨_, rfl, ?_⟩; have n0_ := Aside0.mk (Kd.R_lower ho0 (below_size (by repeat (first | (with_reducible first | exact HB.out | apply below_alloc | apply pw_below_drewN | apply below_drew1) | exact HB.out)))); have n1_ := Aside0.mk (below_step (by repeat (first | (with_reducible first | exact HB.out | apply below_alloc | apply pw_below_drewN | apply below_drew1) | exact HB.out)) hb); clear HB; have HO321 := n0_; have HB := n1_; clear n0_ n1_; (try clear hb); (try clear hb2); (try clear hk); (try clear hi); (try clear ho0)) | ((with_reducible refine gate_callee (f := 33) rfl ?_); refine goesL_ (some 39) rfl rfl Try.func33 (by kernel_rfl) rfl #[.slice A0 l0.length c0, .slice A1 l1.length c1] rfl (by (try simp only [List.map_toArray, List.map_cons, List.map_nil]); first | done | rfl | (simp only [List.length_drop, List.length_take]; rfl)) ?_; (with_reducible refine (testamurref08_Explain.calls kj5 _ _ l0 _ _ l1 t322 t323 _ ?side1 ?side2 ?side3 ?side4 A13.out).mono ?_); (case side1 => repeat (first | exact (Kd.C_below HR0.out HB.out) | (with_reducible refine Kd.C_alloc ?_ _) | (with_reducible refine Kd.C_drewN ?_ _) | (with_reducible refine Kd.C_drew ?_))); (case side2 => exact HC0.out); (case side3 => repeat (first | exact (Kd.C_below HR1.out HB.out) | (with_reducible refine Kd.C_alloc ?_ _) | (with_reducible refine Kd.C_drewN ?_ _) | (with_reducible refine Kd.C_drew ?_))); (case side4 => exact HC1.out); rintro e w30 ⟨v324, rfl, ho0, hb⟩; refine ⟨_, rfl, ?_⟩; have n0_ := Aside0.mk (Kd.R_elder' (by (with_reducible repeat (first | apply Kd.R_alloc | apply Kd.R_drewN | apply Kd.R_drew)); exact HO321.out) (Kd.R_base ho0) hb); have n1_ := Aside0.mk (Kd.R_lower (Kd.R_new' ho0 (Kd.R_lt (by (with_reducible repeat (first | apply Kd.R_alloc | apply Kd.R_drewN | apply Kd.R_drew)); exact HO321.out))) (below_size (by repeat (first | (with_reducible first | exact HB.out | apply below_alloc | apply pw_below_drewN | apply below_drew1) | exact HB.out)))); have n2_ := Aside0.mk (below_step (by repeat (first | (with_reducible first | exact HB.out | apply below_alloc | apply pw_below_drewN | apply below_drew1) | exact HB.out)) hb); clear HO321; clear HB; have HO321 := n0_; have HO325 := n1_; have HB := n2_; clear n0_ n1_ n2_; (try clear hb); (try clear hb2); (try clear hk); (try clear hi); (try clear ho0)) | ((with_reducible refine gate_callee (f := 34) rfl ?_); refine goesL_ (some 45) rfl rfl Try.func34 (by kernel_rfl) rfl #[.slice A0 l0.length c0, .slice A2 l2.length c2] rfl (by (try simp only [List.map_toArray, List.map_cons, List.map_nil]); first | done | rfl | (simp only [List.length_drop, List.length_take]; rfl)) ?_; (with_reducible refine (shares_Refresh.calls _ _ l0 _ _ l2 t326 t327 _ ?side1 ?side2 ?side3 ?side4 A14.out).mono ?_); (case side1 => repeat (first | exact (Kd.C_below HR0.out HB.out) | (with_reducible refine Kd.C_alloc ?_ _) | (with_reducible refine Kd.C_drewN ?_ _) | (with_reducible refine Kd.C_drew ?_))); (case side2 => exact HC0.out); (case side3 => repeat (first | exact (Kd.C_below HR2.out HB.out) | (with_reducible refine Kd.C_alloc ?_ _) | (with_reducible refine Kd.C_drewN ?_ _) | (with_reducible refine Kd.C_drew ?_))); (case side4 => exact HC2.out); rintro e w31 ⟨v328, rfl, ho0, hb⟩; refine ⟨_, rfl, ?_⟩; have n0_ := Aside0.mk (Kd.R_below (by (with_reducible repeat (first | apply Kd.R_alloc | apply Kd.R_drewN | apply Kd.R_drew)); exact HO321.out) hb); have n1_ := Aside0.mk (Kd.R_below (by (with_reducible repeat (first | apply Kd.R_alloc | apply Kd.R_drewN | apply Kd.R_drew)); exact HO325.out) hb); have n2_ := Aside0.mk (Kd.S_lower (Kd.S_new' (Kd.S_new' ho0 (Kd.R_lt (by (with_reducible repeat (first | apply Kd.R_alloc | apply Kd.R_drewN | apply Kd.R_drew)); exact HO321.out))) (Kd.R_lt (by (with_reducible repeat (first | apply Kd.R_alloc | apply Kd.R_drewN | apply Kd.R_drew)); exact HO325.out))) (below_size (by repeat (first | (with_reducible first | exact HB.out | apply below_alloc | apply pw_below_drewN | apply below_drew1) | exact HB.out)))); have n3_ := Aside0.mk (below_step (by repeat (first | (with_reducible first | exact HB.out | apply below_alloc | apply pw_below_drewN | apply below_drew1) | exact HB.out)) hb); clear HO321; clear HO325; clear HB; have HO321 := n0_; have HO325 := n1_; have HO329 := n2_; have HB := n3_; clear n0_ n1_ n2_ n3_; (try clear hb); (try clear hb2); (try clear hk); (try clear hi); (try clear ho0)) | ((with_reducible refine gate_callee (f := 35) rfl ?_); refine goesL_ (some 51) rfl rfl Try.func35 (by kernel_rfl) rfl #[.slice A0 l0.length c0, .slice A2 l2.length c2] rfl (by (try simp only [List.map_toArray, List.map_cons, List.map_nil]); first | done | rfl | (simp only [List.length_drop, List.length_take]; rfl)) ?_; (with_reducible refine (testamurref08_Refresh.calls kj5 _ _ l0 _ _ l2 t330 t331 _ ?side1 ?side2 ?side3 ?side4 A15.out).mono ?_); (case side1 => repeat (first | exact (Kd.C_below HR0.out HB.out) | (with_reducible refine Kd.C_alloc ?_ _) | (with_reducible refine Kd.C_drewN ?_ _) | (with_reducible refine Kd.C_drew ?_))); (case side2 => exact HC0.out); (case side3 => repeat (first | exact (Kd.C_below HR2.out HB.out) | (with_reducible refine Kd.C_alloc ?_ _) | (with_reducible refine Kd.C_drewN ?_ _) | (with_reducible refine Kd.C_drew ?_))); (case side4 => exact HC2.out); rintro e w32 ⟨v332, rfl, ho0, hb⟩; refine ⟨_, rfl, ?_⟩; have n0_ := Aside0.mk (Kd.R_below (by (with_reducible repeat (first | apply Kd.R_alloc | apply Kd.R_drewN | apply Kd.R_drew)); exact HO321.out) hb); have n1_ := Aside0.mk (Kd.R_below (by (with_reducible repeat (first | apply Kd.R_alloc | apply Kd.R_drewN | apply Kd.R_drew)); exact HO325.out) hb); have n2_ := Aside0.mk (Kd.S_elder' (by (with_reducible repeat (first | apply Kd.S_alloc | apply Kd.S_drewN | apply Kd.S_drew)); exact HO329.out) (Kd.S_base ho0) hb); have n3_ := Aside0.mk (Kd.S_lower (Kd.S_new' (Kd.S_new' (Kd.S_new' ho0 (Kd.R_lt (by (with_reducible repeat (first | apply Kd.R_alloc | apply Kd.R_drewN | apply Kd.R_drew)); exact HO321.out))) (Kd.R_lt (by (with_reducible repeat (first | apply Kd.R_alloc | apply Kd.R_drewN | apply Kd.R_drew)); exact HO325.out))) (Kd.S_lt (by (with_reducible repeat (first | apply Kd.S_alloc | apply Kd.S_drewN | apply Kd.S_drew)); exact HO329.out))) (below_size (by repeat (first | (with_reducible first | exact HB.out | apply below_alloc | apply pw_below_drewN | apply below_drew1) | exact HB.out)))); have n4_ := Aside0.mk (below_step (by repeat (first | (with_reducible first | exact HB.out | apply below_alloc | apply pw_below_drewN | apply below_drew1) | exact HB.out)) hb); clear HO321; clear HO325; clear HO329; clear HB; have HO321 := n0_; have HO325 := n1_; have HO329 := n2_; have HO333 := n3_; have HB := n4_; clear n0_ n1_ n2_ n3_ n4_; (try clear hb); (try clear hb2); (try clear hk); (try clear hi); (try clear ho0); have hcv33 := own_string (P := Try.prog) Try.underlying30 Try.underlying5 Try.underlying9 (Kd.own_of_R HO321.out); have hcv34 := own_string (P := Try.prog) Try.underlying30 Try.underlying5 Try.underlying9 (Kd.own_of_R HO325.out); obtain ⟨Ao35, co35, eo35⟩ := Kd.S_slice HO329.out; subst eo35; obtain ⟨Ao36, co36, eo36⟩ := Kd.S_slice HO333.out; subst eo36) | (go_at_call 29; (with_reducible refine (testamurref08_Same.calls kj5 _ _ t326 _ _ t330 false _ ?side1 ?side2 ?side3 ?side4 A18.out).mono ?_); (case side1 => repeat (first | exact (Kd.S_reads' HO329.out).2.2 | (with_reducible refine Kd.C_alloc ?_ _) | (with_reducible refine Kd.C_drewN ?_ _) | (with_reducible refine Kd.C_drew ?_))); (case side2 => exact (Kd.S_reads' HO329.out).2.1); (case side3 => repeat (first | exact (Kd.S_reads' HO333.out).2.2 | (with_reducible refine Kd.C_alloc ?_ _) | (with_reducible refine Kd.C_drewN ?_ _) | (with_reducible refine Kd.C_drew ?_))); (case side4 => exact (Kd.S_reads' HO333.out).2.1); rintro e w37 ⟨rfl, hb⟩; have n0_ := Aside0.mk (Kd.R_below (by (with_reducible repeat (first | apply Kd.R_alloc | apply Kd.R_drewN | apply Kd.R_drew)); exact HO321.out) hb); have n1_ := Aside0.mk (Kd.R_below (by (with_reducible repeat (first | apply Kd.R_alloc | apply Kd.R_drewN | apply Kd.R_drew)); exact HO325.out) hb); have n2_ := Aside0.mk (Kd.S_below (by (with_reducible repeat (first | apply Kd.S_alloc | apply Kd.S_drewN | apply Kd.S_drew)); exact HO329.out) hb); have n3_ := Aside0.mk (Kd.S_below (by (with_reducible repeat (first | apply Kd.S_alloc | apply Kd.S_drewN | apply Kd.S_drew)); exact HO333.out) hb); have n4_ := Aside0.mk (below_step (by repeat (first | (with_reducible first | exact HB.out | apply below_alloc | apply pw_below_drewN | apply below_drew1) | exact HB.out)) hb); clear HO321; clear HO325; clear HO329; clear HO333; clear HB; have HO321 := n0_; have HO325 := n1_; have HO329 := n2_; have HO333 := n3_; have HB := n4_; clear n0_ n1_ n2_ n3_ n4_; (try clear hb); (try clear hb2); (try clear hk); (try clear hi)))
             go_ret
             exact ⟨by first | rfl | (simp [errW_none, errW_some] <;> rfl) | (simp [*, errW_none, errW_some] <;> rfl), by repeat (first | (with_reducible first | exact HB.out | apply below_alloc | apply pw_below_drewN | apply below_drew1) | exact HB.out)⟩
         · rw [if_neg c17] at H
           have c17b0 : (t319 == t323) = false := beq_eq_false_iff_ne.mpr c17
           have c17b1 : (t319 != t323) = true := bne_iff_ne.mpr c17
           obtain rfl := Option.some.inj H
           go_wp2_with (first | ((with_reducible refine gate_callee (f := 32) rfl ?_); refine goesL_ (some 33) rfl rfl Try.func32 (by kernel_rfl) rfl #[.slice A0 l0.length c0, .slice A1 l1.length c1] rfl (by (try simp only [List.map_toArray, List.map_cons, List.map_nil]); first | done | rfl | (simp only [List.length_drop, List.length_take]; rfl)) ?_; (with_reducible refine (shares_Explain.calls kj5 _ _ l0 _ _ l1 t318 t319 _ ?side1 ?side2 ?side3 ?side4 A12.out).mono ?_); (case side1 => repeat (first | exact (Kd.C_below HR0.out HB.out) | (with_reducible refine Kd.C_alloc ?_ _) | (with_reducible refine Kd.C_drewN ?_ _) | (with_reducible refine Kd.C_drew ?_))); (case side2 => exact HC0.out); (case side3 => repeat (first | exact (Kd.C_below HR1.out HB.out) | (with_reducible refine Kd.C_alloc ?_ _) | (with_reducible refine Kd.C_drewN ?_ _) | (with_reducible refine Kd.C_drew ?_))); (case side4 => exact HC1.out); rintro e w38 ⟨v320, rfl, ho0, hb⟩; refine ⟨_, rfl, ?_⟩; have n0_ := Aside0.mk (Kd.R_lower ho0 (below_size (by repeat (first | (with_reducible first | exact HB.out | apply below_alloc | apply pw_below_drewN | apply below_drew1) | exact HB.out)))); have n1_ := Aside0.mk (below_step (by repeat (first | (with_reducible first | exact HB.out | apply below_alloc | apply pw_below_drewN | apply below_drew1) | exact HB.out)) hb); clear HB; have HO321 := n0_; have HB := n1_; clear n0_ n1_; (try clear hb); (try clear hb2); (try clear hk); (try clear hi); (try clear ho0)) | ((with_reducible refine gate_callee (f := 33) rfl ?_); refine goesL_ (some 39) rfl rfl Try.func33 (by kernel_rfl) rfl #[.slice A0 l0.length c0, .slice A1 l1.length c1] rfl (by (try simp only [List.map_toArray, List.map_cons, List.map_nil]); first | done | rfl | (simp only [List.length_drop, List.length_take]; rfl)) ?_; (with_reducible refine (testamurref08_Explain.calls kj5 _ _ l0 _ _ l1 t322 t323 _ ?side1 ?side2 ?side3 ?side4 A13.out).mono ?_); (case side1 => repeat (first | exact (Kd.C_below HR0.out HB.out) | (with_reducible refine Kd.C_alloc ?_ _) | (with_reducible refine Kd.C_drewN ?_ _) | (with_reducible refine Kd.C_drew ?_))); (case side2 => exact HC0.out); (case side3 => repeat (first | exact (Kd.C_below HR1.out HB.out) | (with_reducible refine Kd.C_alloc ?_ _) | (with_reducible refine Kd.C_drewN ?_ _) | (with_reducible refine Kd.C_drew ?_))); (case side4 => exact HC1.out); rintro e w39 ⟨v324, rfl, ho0, hb⟩; refine ⟨_, rfl, ?_⟩; have n0_ := Aside0.mk (Kd.R_elder' (by (with_reducible repeat (first | apply Kd.R_alloc | apply Kd.R_drewN | apply Kd.R_drew)); exact HO321.out) (Kd.R_base ho0) hb); have n1_ := Aside0.mk (Kd.R_lower (Kd.R_new' ho0 (Kd.R_lt (by (with_reducible repeat (first | apply Kd.R_alloc | apply Kd.R_drewN | apply Kd.R_drew)); exact HO321.out))) (below_size (by repeat (first | (with_reducible first | exact HB.out | apply below_alloc | apply pw_below_drewN | apply below_drew1) | exact HB.out)))); have n2_ := Aside0.mk (below_step (by repeat (first | (with_reducible first | exact HB.out | apply below_alloc | apply pw_below_drewN | apply below_drew1) | exact HB.out)) hb); clear HO321; clear HB; have HO321 := n0_; have HO325 := n1_; have HB := n2_; clear n0_ n1_ n2_; (try clear hb); (try clear hb2); (try clear hk); (try clear hi); (try clear ho0)) | ((with_reducible refine gate_callee (f := 34) rfl ?_); refine goesL_ (some 45) rfl rfl Try.func34 (by kernel_rfl) rfl #[.slice A0 l0.length c0, .slice A2 l2.length c2] rfl (by (try simp only [List.map_toArray, List.map_cons, List.map_nil]); first | done | rfl | (simp only [List.length_drop, List.length_take]; rfl)) ?_; (with_reducible refine (shares_Refresh.calls _ _ l0 _ _ l2 t326 t327 _ ?side1 ?side2 ?side3 ?side4 A14.out).mono ?_); (case side1 => repeat (first | exact (Kd.C_below HR0.out HB.out) | (with_reducible refine Kd.C_alloc ?_ _) | (with_reducible refine Kd.C_drewN ?_ _) | (with_reducible refine Kd.C_drew ?_))); (case side2 => exact HC0.out); (case side3 => repeat (first | exact (Kd.C_below HR2.out HB.out) | (with_reducible refine Kd.C_alloc ?_ _) | (with_reducible refine Kd.C_drewN ?_ _) | (with_reducible refine Kd.C_drew ?_))); (case side4 => exact HC2.out); rintro e w40 ⟨v328, rfl, ho0, hb⟩; refine ⟨_, rfl, ?_⟩; have n0_ := Aside0.mk (Kd.R_below (by (with_reducible repeat (first | apply Kd.R_alloc | apply Kd.R_drewN | apply Kd.R_drew)); exact HO321.out) hb); have n1_ := Aside0.mk (Kd.R_below (by (with_reducible repeat (first | apply Kd.R_alloc | apply Kd.R_drewN | apply Kd.R_drew)); exact HO325.out) hb); have n2_ := Aside0.mk (Kd.S_lower (Kd.S_new' (Kd.S_new' ho0 (Kd.R_lt (by (with_reducible repeat (first | apply Kd.R_alloc | apply Kd.R_drewN | apply Kd.R_drew)); exact HO321.out))) (Kd.R_lt (by (with_reducible repeat (first | apply Kd.R_alloc | apply Kd.R_drewN | apply Kd.R_drew)); exact HO325.out))) (below_size (by repeat (first | (with_reducible first | exact HB.out | apply below_alloc | apply pw_below_drewN | apply below_drew1) | exact HB.out)))); have n3_ := Aside0.mk (below_step (by repeat (first | (with_reducible first | exact HB.out | apply below_alloc | apply pw_below_drewN | apply below_drew1) | exact HB.out)) hb); clear HO321; clear HO325; clear HB; have HO321 := n0_; have HO325 := n1_; have HO329 := n2_; have HB := n3_; clear n0_ n1_ n2_ n3_; (try clear hb); (try clear hb2); (try clear hk); (try clear hi); (try clear ho0)) | ((with_reducible refine gate_callee (f := 35) rfl ?_); refine goesL_ (some 51) rfl rfl Try.func35 (by kernel_rfl) rfl #[.slice A0 l0.length c0, .slice A2 l2.length c2] rfl (by (try simp only [List.map_toArray, List.map_cons, List.map_nil]); first | done | rfl | (simp only [List.length_drop, List.length_take]; rfl)) ?_; (with_reducible refine (testamurref08_Refresh.calls kj5 _ _ l0 _ _ l2 t330 t331 _ ?side1 ?side2 ?side3 ?side4 A15.out).mono ?_); (case side1 => repeat (first | exact (Kd.C_below HR0.out HB.out) | (with_reducible refine Kd.C_alloc ?_ _) | (with_reducible refine Kd.C_drewN ?_ _) | (with_reducible refine Kd.C_drew ?_))); (case side2 => exact HC0.out); (case side3 => repeat (first | exact (Kd.C_below HR2.out HB.out) | (with_reducible refine Kd.C_alloc ?_ _) | (with_reducible refine Kd.C_drewN ?_ _) | (with_reducible refine Kd.C_drew ?_))); (case side4 => exact HC2.out); rintro e w41 ⟨v332, rfl, ho0, hb⟩; refine ⟨_, rfl, ?_⟩; have n0_ := Aside0.mk (Kd.R_below (by (with_reducible repeat (first | apply Kd.R_alloc | apply Kd.R_drewN | apply Kd.R_drew)); exact HO321.out) hb); have n1_ := Aside0.mk (Kd.R_below (by (with_reducible repeat (first | apply Kd.R_alloc | apply Kd.R_drewN | apply Kd.R_drew)); exact HO325.out) hb); have n2_ := Aside0.mk (Kd.S_elder' (by (with_reducible repeat (first | apply Kd.S_alloc | apply Kd.S_drewN | apply Kd.S_drew)); exact HO329.out) (Kd.S_base ho0) hb); have n3_ := Aside0.mk (Kd.S_lower (Kd.S_new' (Kd.S_new' (Kd.S_new' ho0 (Kd.R_lt (by (with_reducible repeat (first | apply Kd.R_alloc | apply Kd.R_drewN | apply Kd.R_drew)); exact HO321.out))) (Kd.R_lt (by (with_reducible repeat (first | apply Kd.R_alloc | apply Kd.R_drewN | apply Kd.R_drew)); exact HO325.out))) (Kd.S_lt (by (with_reducible repeat (first | apply Kd.S_alloc | apply Kd.S_drewN | apply Kd.S_drew)); exact HO329.out))) (below_size (by repeat (first | (with_reducible first | exact HB.out | apply below_alloc | apply pw_below_drewN | apply below_drew1) | exact HB.out)))); have n4_ := Aside0.mk (below_step (by repeat (first | (with_reducible first | exact HB.out | apply below_alloc | apply pw_below_drewN | apply below_drew1) | exact HB.out)) hb); clear HO321; clear HO325; clear HO329; clear HB; have HO321 := n0_; have HO325 := n1_; have HO329 := n2_; have HO333 := n3_; have HB := n4_; clear n0_ n1_ n2_ n3_ n4_; (try clear hb); (try clear hb2); (try clear hk); (try clear hi); (try clear ho0); have hcv42 := own_string (P := Try.prog) Try.underlying30 Try.underlying5 Try.underlying9 (Kd.own_of_R HO321.out); have hcv43 := own_string (P := Try.prog) Try.underlying30 Try.underlying5 Try.underlying9 (Kd.own_of_R HO325.out)))
           go_ret
           exact ⟨by first | rfl | (simp [errW_none, errW_some] <;> rfl) | (simp [*, errW_none, errW_some] <;> rfl), by repeat (first | (with_reducible first | exact HB.out | apply below_alloc | apply pw_below_drewN | apply below_drew1) | exact HB.out)⟩
       · rw [if_neg c16] at H
         have c16b0 : ((strOfNums t318).toList == (strOfNums t322).toList) = false := beq_eq_false_iff_ne.mpr c16
         have c16b1 : ((strOfNums t318).toList != (strOfNums t322).toList) = true := bne_iff_ne.mpr c16
         obtain rfl := Option.some.inj H
         go_wp2_with (first | ((with_reducible refine gate_callee (f := 32) rfl ?_); refine goesL_ (some 33) rfl rfl Try.func32 (by kernel_rfl) rfl #[.slice A0 l0.length c0, .slice A1 l1.length c1] rfl (by (try simp only [List.map_toArray, List.map_cons, List.map_nil]); first | done | rfl | (simp only [List.length_drop, List.length_take]; rfl)) ?_; (with_reducible refine (shares_Explain.calls kj5 _ _ l0 _ _ l1 t318 t319 _ ?side1 ?side2 ?side3 ?side4 A12.out).mono ?_); (case side1 => repeat (first | exact (Kd.C_below HR0.out HB.out) | (with_reducible refine Kd.C_alloc ?_ _) | (with_reducible refine Kd.C_drewN ?_ _) | (with_reducible refine Kd.C_drew ?_))); (case side2 => exact HC0.out); (case side3 => repeat (first | exact (Kd.C_below HR1.out HB.out) | (with_reducible refine Kd.C_alloc ?_ _) | (with_reducible refine Kd.C_drewN ?_ _) | (with_reducible refine Kd.C_drew ?_))); (case side4 => exact HC1.out); rintro e w44 ⟨v320, rfl, ho0, hb⟩; refine ⟨_, rfl, ?_⟩; have n0_ := Aside0.mk (Kd.R_lower ho0 (below_size (by repeat (first | (with_reducible first | exact HB.out | apply below_alloc | apply pw_below_drewN | apply below_drew1) | exact HB.out)))); have n1_ := Aside0.mk (below_step (by repeat (first | (with_reducible first | exact HB.out | apply below_alloc | apply pw_below_drewN | apply below_drew1) | exact HB.out)) hb); clear HB; have HO321 := n0_; have HB := n1_; clear n0_ n1_; (try clear hb); (try clear hb2); (try clear hk); (try clear hi); (try clear ho0)) | ((with_reducible refine gate_callee (f := 33) rfl ?_); refine goesL_ (some 39) rfl rfl Try.func33 (by kernel_rfl) rfl #[.slice A0 l0.length c0, .slice A1 l1.length c1] rfl (by (try simp only [List.map_toArray, List.map_cons, List.map_nil]); first | done | rfl | (simp only [List.length_drop, List.length_take]; rfl)) ?_; (with_reducible refine (testamurref08_Explain.calls kj5 _ _ l0 _ _ l1 t322 t323 _ ?side1 ?side2 ?side3 ?side4 A13.out).mono ?_); (case side1 => repeat (first | exact (Kd.C_below HR0.out HB.out) | (with_reducible refine Kd.C_alloc ?_ _) | (with_reducible refine Kd.C_drewN ?_ _) | (with_reducible refine Kd.C_drew ?_))); (case side2 => exact HC0.out); (case side3 => repeat (first | exact (Kd.C_below HR1.out HB.out) | (with_reducible refine Kd.C_alloc ?_ _) | (with_reducible refine Kd.C_drewN ?_ _) | (with_reducible refine Kd.C_drew ?_))); (case side4 => exact HC1.out); rintro e w45 ⟨v324, rfl, ho0, hb⟩; refine ⟨_, rfl, ?_⟩; have n0_ := Aside0.mk (Kd.R_elder' (by (with_reducible repeat (first | apply Kd.R_alloc | apply Kd.R_drewN | apply Kd.R_drew)); exact HO321.out) (Kd.R_base ho0) hb); have n1_ := Aside0.mk (Kd.R_lower (Kd.R_new' ho0 (Kd.R_lt (by (with_reducible repeat (first | apply Kd.R_alloc | apply Kd.R_drewN | apply Kd.R_drew)); exact HO321.out))) (below_size (by repeat (first | (with_reducible first | exact HB.out | apply below_alloc | apply pw_below_drewN | apply below_drew1) | exact HB.out)))); have n2_ := Aside0.mk (below_step (by repeat (first | (with_reducible first | exact HB.out | apply below_alloc | apply pw_below_drewN | apply below_drew1) | exact HB.out)) hb); clear HO321; clear HB; have HO321 := n0_; have HO325 := n1_; have HB := n2_; clear n0_ n1_ n2_; (try clear hb); (try clear hb2); (try clear hk); (try clear hi); (try clear ho0)) | ((with_reducible refine gate_callee (f := 34) rfl ?_); refine goesL_ (some 45) rfl rfl Try.func34 (by kernel_rfl) rfl #[.slice A0 l0.length c0, .slice A2 l2.length c2] rfl (by (try simp only [List.map_toArray, List.map_cons, List.map_nil]); first | done | rfl | (simp only [List.length_drop, List.length_take]; rfl)) ?_; (with_reducible refine (shares_Refresh.calls _ _ l0 _ _ l2 t326 t327 _ ?side1 ?side2 ?side3 ?side4 A14.out).mono ?_); (case side1 => repeat (first | exact (Kd.C_below HR0.out HB.out) | (with_reducible refine Kd.C_alloc ?_ _) | (with_reducible refine Kd.C_drewN ?_ _) | (with_reducible refine Kd.C_drew ?_))); (case side2 => exact HC0.out); (case side3 => repeat (first | exact (Kd.C_below HR2.out HB.out) | (with_reducible refine Kd.C_alloc ?_ _) | (with_reducible refine Kd.C_drewN ?_ _) | (with_reducible refine Kd.C_drew ?_))); (case side4 => exact HC2.out); rintro e w46 ⟨v328, rfl, ho0, hb⟩; refine ⟨_, rfl, ?_⟩; have n0_ := Aside0.mk (Kd.R_below (by (with_reducible repeat (first | apply Kd.R_alloc | apply Kd.R_drewN | apply Kd.R_drew)); exact HO321.out) hb); have n1_ := Aside0.mk (Kd.R_below (by (with_reducible repeat (first | apply Kd.R_alloc | apply Kd.R_drewN | apply Kd.R_drew)); exact HO325.out) hb); have n2_ := Aside0.mk (Kd.S_lower (Kd.S_new' (Kd.S_new' ho0 (Kd.R_lt (by (with_reducible repeat (first | apply Kd.R_alloc | apply Kd.R_drewN | apply Kd.R_drew)); exact HO321.out))) (Kd.R_lt (by (with_reducible repeat (first | apply Kd.R_alloc | apply Kd.R_drewN | apply Kd.R_drew)); exact HO325.out))) (below_size (by repeat (first | (with_reducible first | exact HB.out | apply below_alloc | apply pw_below_drewN | apply below_drew1) | exact HB.out)))); have n3_ := Aside0.mk (below_step (by repeat (first | (with_reducible first | exact HB.out | apply below_alloc | apply pw_below_drewN | apply below_drew1) | exact HB.out)) hb); clear HO321; clear HO325; clear HB; have HO321 := n0_; have HO325 := n1_; have HO329 := n2_; have HB := n3_; clear n0_ n1_ n2_ n3_; (try clear hb); (try clear hb2); (try clear hk); (try clear hi); (try clear ho0)) | ((with_reducible refine gate_callee (f := 35) rfl ?_); refine goesL_ (some 51) rfl rfl Try.func35 (by kernel_rfl) rfl #[.slice A0 l0.length c0, .slice A2 l2.length c2] rfl (by (try simp only [List.map_toArray, List.map_cons, List.map_nil]); first | done | rfl | (simp only [List.length_drop, List.length_take]; rfl)) ?_; (with_reducible refine (testamurref08_Refresh.calls kj5 _ _ l0 _ _ l2 t330 t331 _ ?side1 ?side2 ?side3 ?side4 A15.out).mono ?_); (case side1 => repeat (first | exact (Kd.C_below HR0.out HB.out) | (with_reducible refine Kd.C_alloc ?_ _) | (with_reducible refine Kd.C_drewN ?_ _) | (with_reducible refine Kd.C_drew ?_))); (case side2 => exact HC0.out); (case side3 => repeat (first | exact (Kd.C_below HR2.out HB.out) | (with_reducible refine Kd.C_alloc ?_ _) | (with_reducible refine Kd.C_drewN ?_ _) | (with_reducible refine Kd.C_drew ?_))); (case side4 => exact HC2.out); rintro e w47 ⟨v332, rfl, ho0, hb⟩; refine ⟨_, rfl, ?_⟩; have n0_ := Aside0.mk (Kd.R_below (by (with_reducible repeat (first | apply Kd.R_alloc | apply Kd.R_drewN | apply Kd.R_drew)); exact HO321.out) hb); have n1_ := Aside0.mk (Kd.R_below (by (with_reducible repeat (first | apply Kd.R_alloc | apply Kd.R_drewN | apply Kd.R_drew)); exact HO325.out) hb); have n2_ := Aside0.mk (Kd.S_elder' (by (with_reducible repeat (first | apply Kd.S_alloc | apply Kd.S_drewN | apply Kd.S_drew)); exact HO329.out) (Kd.S_base ho0) hb); have n3_ := Aside0.mk (Kd.S_lower (Kd.S_new' (Kd.S_new' (Kd.S_new' ho0 (Kd.R_lt (by (with_reducible repeat (first | apply Kd.R_alloc | apply Kd.R_drewN | apply Kd.R_drew)); exact HO321.out))) (Kd.R_lt (by (with_reducible repeat (first | apply Kd.R_alloc | apply Kd.R_drewN | apply Kd.R_drew)); exact HO325.out))) (Kd.S_lt (by (with_reducible repeat (first | apply Kd.S_alloc | apply Kd.S_drewN | apply Kd.S_drew)); exact HO329.out))) (below_size (by repeat (first | (with_reducible first | exact HB.out | apply below_alloc | apply pw_below_drewN | apply below_drew1) | exact HB.out)))); have n4_ := Aside0.mk (below_step (by repeat (first | (with_reducible first | exact HB.out | apply below_alloc | apply pw_below_drewN | apply below_drew1) | exact HB.out)) hb); clear HO321; clear HO325; clear HO329; clear HB; have HO321 := n0_; have HO325 := n1_; have HO329 := n2_; have HO333 := n3_; have HB := n4_; clear n0_ n1_ n2_ n3_ n4_; (try clear hb); (try clear hb2); (try clear hk); (try clear hi); (try clear ho0); have hcv48 := own_string (P := Try.prog) Try.underlying30 Try.underlying5 Try.underlying9 (Kd.own_of_R HO321.out); have hcv49 := own_string (P := Try.prog) Try.underlying30 Try.underlying5 Try.underlying9 (Kd.own_of_R HO325.out)))
         go_ret
         exact ⟨by first | rfl | (simp [errW_none, errW_some] <;> rfl) | (simp [*, errW_none, errW_some] <;> rfl), by repeat (first | (with_reducible first | exact HB.out | apply below_alloc | apply pw_below_drewN | apply below_drew1) | exact HB.out)⟩
 · replace c5 := Bool.eq_false_iff.mpr c5
   subst c5
   have H1 : (some false) = some r := by rw [if_neg (show ¬ (false = true) by decide)] at H; exact H
   clear H
   have H := H1
   clear H1
   obtain rfl := Option.some.inj H
   go_enter Try.func10, Try.ntmps10
   go_wp2_with (first | ((with_reducible refine gate_callee (f := 23) rfl ?_); refine goesL_ (some 15) rfl rfl Try.func23 (by kernel_rfl) rfl #[] rfl (by (try simp only [List.map_toArray, List.map_cons, List.map_nil]); first | done | rfl | (simp only [List.length_drop, List.length_take]; rfl)) ?_; (with_reducible refine (testamurlaw08_sane.calls  false _ A4.out).mono ?_); rintro e w50 ⟨rfl, hb⟩; refine ⟨_, rfl, ?_⟩; have n0_ := Aside0.mk (below_step (by repeat (first | (with_reducible first | exact HB.out | apply below_alloc | apply pw_below_drewN | apply below_drew1) | exact HB.out)) hb); clear HB; have HB := n0_; clear n0_; (try clear hb); (try clear hb2); (try clear hk); (try clear hi)))
   go_ret
   exact ⟨by first | rfl | (simp [errW_none, errW_some] <;> rfl) | (simp [*, errW_none, errW_some] <;> rfl), by repeat (first | (with_reducible first | exact HB.out | apply below_alloc | apply pw_below_drewN | apply below_drew1) | exact HB.out)⟩
end Go.Proofs.Ytillfbohengpaaa.PA
end
section
set_option linter.unusedVariables false
set_option linter.unusedSimpArgs false
namespace Go.Proofs.Ytillfbohengpaaa
open Go.RowKit Gf Go.Proofs.YtillfbohengpaaaW.PrintWords PA
theorem explainspec_f (L : List Sh) (s c : List G) (hl : L.length ≤ 9223372036854775807) : ∃ k, testamurlaw08_SharesExplainSpec.f k (L.map sI) (s.map tI) (c.map tI) = some true := by
  have j1 : ∀ k, testamurlaw08_SharesExplainSpec.j0 (k + 1) (L.map sI) (s.map tI) (c.map tI) true = some true := by
    intro k
    simp only [testamurlaw08_SharesExplainSpec.j0]
    rw [if_pos trivial]
  have base : ∀ k, L.length < k → testamurlaw08_SharesExplainSpec.f k (L.map sI) (s.map tI) (c.map tI) = if fewB L = true then (if (s.length : Int) > 70 then (testamurlaw08_SharesExplainSpec.j0 k (L.map sI) (s.map tI) (c.map tI) true) else (testamurlaw08_SharesExplainSpec.j0 k (L.map sI) (s.map tI) (c.map tI) (decide ((c.length : Int) > 600)))) else (testamurlaw08_SharesExplainSpec.j0 k (L.map sI) (s.map tI) (c.map tI) true) := by
    intro k hk
    unfold testamurlaw08_SharesExplainSpec.f
    rw [sane_f]
    simp only [Option.bind_some]
    rw [if_pos trivial, few_f L hl _ (by omega)]
    simp only [Option.bind_some, List.length_map]
  by_cases h : fewB L = true
  case neg => exact ⟨L.length + 1, by rw [base _ (by omega), if_neg h]; exact j1 _⟩
  by_cases c1 : (s.length : Int) > 70
  · exact ⟨L.length + 1, by rw [base _ (by omega), if_pos h, if_pos c1]; exact j1 _⟩
  by_cases c2 : (c.length : Int) > 600
  · exact ⟨L.length + 1, by rw [base _ (by omega), if_pos h, if_neg c1, show decide ((c.length : Int) > 600) = true from decide_eq_true c2]; exact j1 _⟩
  have hL := (few_spec h).1
  obtain ⟨K1, h1⟩ := expl_f L s (by omega) (by omega)
  obtain ⟨K2, h2⟩ := rexpl_f L s (by omega) (by omega)
  obtain ⟨K3, h3⟩ := rrefresh_f L c (by omega) (by omega)
  have hlen : (refreshR L c).length ≤ 10 := by
    unfold refreshR
    split
    · simp [nextTo]; exact hL
    · simp
  obtain ⟨k, hk⟩ : ∃ k, K1 + K2 + K3 + 100 < k := ⟨_, Nat.lt_succ_self _⟩
  refine ⟨k + 1, ?_⟩
  rw [base _ (by omega), if_pos h, if_neg c1, show decide ((c.length : Int) > 600) = false from decide_eq_false c2]
  simp only [testamurlaw08_SharesExplainSpec.j0]
  rw [if_neg (by decide), h1 k (by omega), h2 k (by omega), prefresh_f L c (by omega), h3 k (by omega)]
  simp only [Option.bind_some]
  rw [if_pos trivial, if_pos trivial, same_f _ (by rw [List.length_map]; omega) k (by rw [List.length_map]; omega)]
  simp only [Option.bind_some]
  rw [if_pos trivial, beq_self_eq_true]
theorem explainspec_w {w : World} (A : Option Addr) (c : Nat) (l0 : List S52) (hC : Kd.C k52 w A l0.length l0) (hc : l0.length ≤ c) (hW : ∀ x ∈ l0, ShWf x)
    (A1 : Option Addr) (c1 : Nat) (l1 : List Int) (hC1 : Kd.C (Kd.int .u8) w A1 l1.length l1) (hc1 : l1.length ≤ c1) (hW1 : ∀ x ∈ l1, (Lit.int .u8 x).wf = true)
    (A2 : Option Addr) (c2 : Nat) (l2 : List Int) (hC2 : Kd.C (Kd.int .u8) w A2 l2.length l2) (hc2 : l2.length ≤ c2) (hW2 : ∀ x ∈ l2, (Lit.int .u8 x).wf = true) :
    Calls Try.prog 10 #[.slice A l0.length c, .slice A1 l1.length c1, .slice A2 l2.length c2] w fun e w' => e = .returned (.bool true) ∧ Below w.heap.size w w' := by
  obtain ⟨L, rfl⟩ := ex_okS (okS_wf l0 hW)
  obtain ⟨s, rfl⟩ := ex_isB (isB_wf l1 hW1)
  obtain ⟨r, rfl⟩ := ex_isB (isB_wf l2 hW2)
  have hl := hC.2.1
  rw [List.length_map] at hl
  obtain ⟨k, hk⟩ := explainspec_f L s r hl
  exact testamurlaw08_SharesExplainSpec.calls k A c (L.map sI) A1 c1 (s.map tI) A2 c2 (r.map tI) true w hC hc hC1 hc1 hC2 hc2 hk
end Go.Proofs.Ytillfbohengpaaa
end
