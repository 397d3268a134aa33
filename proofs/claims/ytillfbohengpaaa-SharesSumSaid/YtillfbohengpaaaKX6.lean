/-
  Texts of this session and laid words, merged in their order and pruned: PAtestamurlaw08some, PureH, PAtestamurlaw08SharesSplitSpec, LawSplitSpec.
-/
import Derived.Test.YtillfbohengpaaaKX1
import Derived.Test.YtillfbohengpaaaKX5
import Derived.Test.YtillfbohengpaaaKX4
import Derived.Test.YtillfbohengpaaaKX2
import Derived.Test.YtillfbohengpaaaKX3
section
namespace Go.Proofs.Ytillfbohengpaaa.PA
open Go.RowKit Go.Proofs.YtillfbohengpaaaW.PrintWords Go.Proofs.YtillfbohengpaaaW.PrintLast Go.Proofs.YtillfbohengpaaaW.PrintMore
attribute [local go_sem] max2_int min2_int max_two min_two max_three min_three max_four min_four   -- for this text's walks alone
set_option linter.unusedVariables false
set_option linter.unusedSimpArgs false
def testamurlaw08_some.l0 : Nat → List (S52) → Int → List (S52) → Int → Int → Option ((List (S52)))
 | 0, _, _, _, _, _ => none
 | k + 1, x0, x1, x5, x8, x9 => if x9 < x8 then (if x9 < 8 then (if 0 ≤ x9 then (if (Go.bits .and .u8 (shr .u8 x1 x9) 1) = 1 then (if x9 < (x0.length : Int) then (if x5.length < 2513169434916 then (testamurlaw08_some.l0 k x0 x1 (x5 ++ [(⟨(rd_T52 x0 x9).f0, (rd_T52 x0 x9).f1, (rd_T52 x0 x9).f2, (rd_T52 x0 x9).f3, (rd_T52 x0 x9).f4⟩ : S52)]) x8 (wrap64 (x9 + 1))) else (none)) else (none)) else (testamurlaw08_some.l0 k x0 x1 x5 x8 (wrap64 (x9 + 1)))) else (none)) else (testamurlaw08_some.l0 k x0 x1 x5 x8 (wrap64 (x9 + 1)))) else (some x5)
def testamurlaw08_some.f (k : Nat) (l0 : List (S52)) (a1 : Int) : Option ((List (S52))) := testamurlaw08_some.l0 k l0 a1 ([] : List (S52)) (l0.length : Int) 0
set_option maxHeartbeats 8000000 in
set_option maxRecDepth 100000 in
theorem testamurlaw08_some.calls (k : Nat) (P0_ : Nat → Prop) (A0 : Option Addr) (c0 : Nat) (l0 : List (S52)) (a1 : Int) (r : List (S52)) (w : World) (hs0 : Kd.V k52 52 w w.heap.size (fun k_ => P0_ k_) (.slice A0 l0.length c0) l0) (h : testamurlaw08_some.f k l0 a1 = some r) :
 Calls Try.prog 36 #[.slice A0 l0.length c0, .int .u8 a1] w fun e w' => ∃ v0_ : Value, e = .returned (v0_) ∧ Kd.N k52 52 w' w.heap.size (fun k_ => (P0_ k_ ∨ w.heap.size ≤ k_)) v0_ r ∧ Below w.heap.size w w' := by
 have hu52 := Try.underlying52
 have HO0 := Aside0.mk (show Kd.V k52 52 w w.heap.size (fun k_ => (P0_ k_ ∨ w.heap.size ≤ k_)) (.slice A0 l0.length c0) l0 from Kd.V_mono hs0 (fun k_ hk => .inl hk))
 have HB := Aside0.mk (Below.refl w.heap.size w)
 have H : (testamurlaw08_some.l0 k l0 a1 ([] : List (S52)) (l0.length : Int) 0) = some r := h
 clear h
 have H' := Aside0.mk H
 clear H
 go_enter Try.func36, Try.ntmps36
 go_wp2
 go_loopg [5, 9] k (fun kq v5 v9 w' => ∃ (x5_1 : List (S52)) (x9_1 : Int), v9 = .int .i64 x9_1 ∧ Aside0 (testamurlaw08_some.l0 kq l0 a1 x5_1 (l0.length : Int) x9_1 = some r) ∧ Aside0 (kq ≤ k) ∧ Aside0 (Kd.V k52 52 w' w.heap.size (fun k_ => (P0_ k_ ∨ w.heap.size ≤ k_) ∧ some k_ ≠ (v5 : Value).ownBlock) (.slice A0 l0.length c0) l0) ∧ Aside0 (Kd.N k52 52 w' w.heap.size (fun k_ => (P0_ k_ ∨ w.heap.size ≤ k_)) v5 x5_1) ∧ Aside0 (Below w.heap.size w w'))
 case atStart => exact ⟨(([] : List (S52))), (0), (by first | rfl | (simp; done) | (simp [*]; done)), H', ⟨Nat.le_refl _⟩, ⟨by (with_reducible repeat (first | apply Kd.V_alloc | apply Kd.V_drewN | apply Kd.V_drew)); exact Kd.V_mono HO0.out (fun _ hk => ⟨hk, (by simp [Value.ownBlock])⟩)⟩, ⟨by first | exact Kd.S_nil _ _ _ _ _ | exact Kd.N_nil _ _ _ _ _ | exact Kd.V_nil _ _ _ _ _ | exact Kd.Q_nil _ _ _ _ _ | exact Kd.R_nil _ _ _ _ _⟩, ⟨by repeat (first | (with_reducible first | exact HB.out | apply below_alloc | apply pw_below_drewN | apply below_drew1) | exact HB.out)⟩⟩
 case round =>
  clear H'
  try clear p2
  obtain ⟨x5_1, x9_1, rfl, HA, HK1, HO_0, HO_5, HB⟩ := hrel
  cases gk with
  | zero => exact absurd HA.out (by simp [testamurlaw08_some.l0])
  | succ k1 =>
   have H := HA.out
   clear HA
   simp only [testamurlaw08_some.l0] at H
   by_cases c3 : x9_1 < (l0.length : Int)
   · rw [if_pos c3] at H
     have c3b0 : decide (x9_1 < (l0.length : Int)) = true := decide_eq_true c3
     clear c3
     by_cases c4 : x9_1 < 8
     · rw [if_pos c4] at H
       have c4b0 : decide (x9_1 < 8) = true := decide_eq_true c4
       clear c4
       by_cases c5 : 0 ≤ x9_1
       · rw [if_pos c5] at H
         have c5b0 := eq_true c5
         have c5b1 : decide (0 ≤ x9_1) = true := decide_eq_true c5
         clear c5
         obtain ⟨ji6, hji6⟩ : ∃ j_ : Int, (shr .u8 a1 x9_1) = j_ := ⟨_, rfl⟩
         replace H : (if (Go.bits .and .u8 (ji6) 1) = 1 then (if x9_1 < (l0.length : Int) then (if x5_1.length < 2513169434916 then (testamurlaw08_some.l0 k1 l0 a1 (x5_1 ++ [(⟨(rd_T52 l0 x9_1).f0, (rd_T52 l0 x9_1).f1, (rd_T52 l0 x9_1).f2, (rd_T52 l0 x9_1).f3, (rd_T52 l0 x9_1).f4⟩ : S52)]) (l0.length : Int) (wrap64 (x9_1 + 1))) else (none)) else (none)) else (testamurlaw08_some.l0 k1 l0 a1 x5_1 (l0.length : Int) (wrap64 (x9_1 + 1)))) = some r := by first | (rw [hji6] at H; exact H) | (simp only [hji6] at H ⊢; exact H)
         have hji6_ : (a1 / 2 ^ min x9_1.toNat 8) = ji6 := hji6
         have hji6z : x9_1 ≤ 8 → (a1 / 2 ^ x9_1.toNat) = ji6 := shr_small hji6
         by_cases c7 : (Go.bits .and .u8 (ji6) 1) = 1
         · rw [if_pos c7] at H
           have c7b0 : ((Go.bits .and .u8 (ji6) 1) == 1) = true := beq_iff_eq.mpr c7
           have c7b1 : ((Go.bits .and .u8 (ji6) 1) != 1) = false := bne_eq_false_iff_eq.mpr c7
           clear c7
           by_cases c8 : x9_1 < (l0.length : Int)
           · rw [if_pos c8] at H
             have c8b0 : decide (x9_1 < (l0.length : Int)) = true := decide_eq_true c8
             clear c8
             by_cases c9 : x5_1.length < 2513169434916
             · rw [if_pos c9] at H
               have LMc9 := Aside0.mk c9
               clear c9
               obtain ⟨y336, hy336⟩ : ∃ y_ : List (S52), y_ = (x5_1 ++ [(⟨(rd_T52 l0 x9_1).f0, (rd_T52 l0 x9_1).f1, (rd_T52 l0 x9_1).f2, (rd_T52 l0 x9_1).f3, (rd_T52 l0 x9_1).f4⟩ : S52)]) := ⟨_, rfl⟩
               replace H : (testamurlaw08_some.l0 k1 l0 a1 y336 (l0.length : Int) (wrap64 (x9_1 + 1))) = some r := by first | (rw [hy336]; with_reducible exact H) | (have H2_ := (Option.bind_some _ _).symm.trans H; rw [hy336]; with_reducible exact H2_) | (have H2_ := (Option.bind_some _ _).symm.trans H; with_reducible exact H2_) | with_reducible exact H | (rw [hy336]; exact H) | exact H
               have Ny336 := Aside0.mk hy336
               clear hy336
               have H' := Aside0.mk H
               clear H
               have p335 : 0 ≤ (x9_1 : Int) := of_decide_eq_true (by first | (with_reducible assumption) | assumption)
               have q335 : x9_1 < (l0.length : Int) := of_decide_eq_true (by first | (with_reducible assumption) | assumption)
               obtain ⟨ad335, A335_4, c335_4, e335, hx335_0, hx335_1, hx335_2, hx335_3, hx335_4, hl335_4, hi335_4⟩ := at_T52 (Kd.V_reads' HO_0.out).2.2 x9_1 p335 q335
               cases e335
               obtain ⟨ce335, hce335, hMe335, hcc335⟩ := Kd.V_get HO_0.out z52 x9_1 p335 (by first | exact q335 | exact of_decide_eq_true (by first | (with_reducible assumption) | assumption) | (have e_ := (Kd.V_reads' HO_0.out).1; omega))
               obtain ⟨ua335_4, uc335_4, rfl, ul335_4, ge335_4⟩ := k52_openF hMe335
               have hv335_4 := hcc335 4 _ rfl
               rw [add_field _ _ 4 (by omega)] at hv335_4
               replace hv335_4 := Option.some.inj (hv335_4.symm.trans hx335_4)
               injection hv335_4 with hva_ hvn_ hvc_
               rw [hva_] at ge335_4
               rw [hvc_] at ul335_4
               have HL335_4 := Aside0.mk (show Kd.V (Kd.int .u8) 5 _ w.heap.size _ _ ((rd_T52 l0 x9_1).f4) from Kd.V_mk ul335_4 ge335_4)
               clear hva_ hvn_ hvc_ ge335_4 ul335_4
               clear hcc335 hce335
               have HR335_4 := Aside0.mk hi335_4
               have HC335_4 := Aside0.mk hl335_4
               clear hi335_4 hl335_4
               replace p335 := eq_true p335
               replace q335 := eq_true q335
               go_wp2_with (first | ((with_reducible refine gate_builtin (b := .append) (xs := #[.tmp 21, .tmp 26]) rfl ?_); at_builtin; refine Kd.N_append k52 (w0 := w) w.heap.size rfl (.tmp 21) (.tmp 26) 37 52 (.agg #[(.int .i64 0), (.int .i64 0), (.int .i64 0), (.int .i64 0), (.slice none 0 0)]) 56 rfl Try.underlying37 info52 rfl (by decide) (by omega) u5 x5_1 (⟨(rd_T52 l0 x9_1).f0, (rd_T52 l0 x9_1).f1, (rd_T52 l0 x9_1).f2, (rd_T52 l0 x9_1).f3, (rd_T52 l0 x9_1).f4⟩ : S52) [.int .i64 ((rd_T52 l0 x9_1).f0), .int .i64 ((rd_T52 l0 x9_1).f1), .int .i64 ((rd_T52 l0 x9_1).f2), .int .i64 ((rd_T52 l0 x9_1).f3), .slice A335_4 ((rd_T52 l0 x9_1).f4).length c335_4] (fun k_ => (P0_ k_ ∨ w.heap.size ≤ k_)) (fun k_ => ((fun k_ => (P0_ k_ ∨ w.heap.size ≤ k_))) k_ ∧ some k_ ≠ (u5 : Value).ownBlock) rfl rfl ?aP (fun _ hk => hk) ?aF ?aO ?aB ?aS ?aL ?_; (case aP => exact (k52_mkF _ _ (⟨(rd_T52 l0 x9_1).f0, (rd_T52 l0 x9_1).f1, (rd_T52 l0 x9_1).f2, (rd_T52 l0 x9_1).f3, (rd_T52 l0 x9_1).f4⟩ : S52) (Kd.V_reads' (Kd.V_mono (ok' := (fun k_ => ((fun k_ => (P0_ k_ ∨ w.heap.size ≤ k_))) k_ ∧ some k_ ≠ (u5 : Value).ownBlock)) (HL335_4.out) (fun k_ hk => ⟨hk.1, hk.2⟩))).2.1 (Kd.V_F (Kd.V_mono (ok' := (fun k_ => ((fun k_ => (P0_ k_ ∨ w.heap.size ≤ k_))) k_ ∧ some k_ ≠ (u5 : Value).ownBlock)) (HL335_4.out) (fun k_ hk => ⟨hk.1, hk.2⟩))))); (case aB => exact (by repeat (first | (with_reducible first | exact HB.out | apply below_alloc | apply pw_below_drewN | apply below_drew1) | exact HB.out))); (case aF => exact (fun k_ hk => (.inr (Nat.le_trans (below_size (by repeat (first | (with_reducible first | exact HB.out | apply below_alloc | apply pw_below_drewN | apply below_drew1) | exact HB.out))) hk)))); (case aO => exact (by (with_reducible repeat (first | apply Kd.N_alloc | apply Kd.N_drewN | apply Kd.N_drew)); exact HO_5.out)); (case aS => exact (below_size (by repeat (first | (with_reducible first | exact HB.out | apply below_alloc | apply pw_below_drewN | apply below_drew1) | exact HB.out)))); (case aL => have := LMc9.out; omega); intro v337 w10 ho hb hg hat; rw [← Ny336.out] at ho; have n0_ := Aside0.mk (Kd.V_afterv (ok := (fun k_ => (P0_ k_ ∨ w.heap.size ≤ k_))) (by (with_reducible repeat (first | apply Kd.V_alloc | apply Kd.V_drewN | apply Kd.V_drew)); exact HO_0.out) hg hat); have n1_ := Aside0.mk (Kd.V_afterv (ok := (fun k_ => (P0_ k_ ∨ w.heap.size ≤ k_))) (by (with_reducible repeat (first | apply Kd.V_alloc | apply Kd.V_drewN | apply Kd.V_drew)); exact HL335_4.out) hg hat); have n2_ := Aside0.mk (hb); have n3_ := Aside0.mk (ho); clear HO_0; clear HL335_4; clear HB; clear HO_5; have HO_0 := n0_; have HL335_4 := n1_; have HB := n2_; have HO338 := n3_; clear n0_ n1_ n2_ n3_; clear ho hb hg hat))
               go_roundg k1
               case measure => have := HK1.out; omega
               case rel => exact ⟨(y336), (wrap64 (x9_1 + 1)), (by first | rfl | (simp; done) | (simp [*]; done)), H', ⟨by have := HK1.out; omega⟩, ⟨by (with_reducible repeat (first | apply Kd.V_alloc | apply Kd.V_drewN | apply Kd.V_drew)); exact HO_0.out⟩, ⟨by (with_reducible repeat (first | apply Kd.N_alloc | apply Kd.N_drewN | apply Kd.N_drew)); exact HO338.out⟩, ⟨by repeat (first | (with_reducible first | exact HB.out | apply below_alloc | apply pw_below_drewN | apply below_drew1) | exact HB.out)⟩⟩
             · rw [if_neg c9] at H
               exact absurd H (by simp)
           · rw [if_neg c8] at H
             exact absurd H (by simp)
         · rw [if_neg c7] at H
           have c7b0 : ((Go.bits .and .u8 (ji6) 1) == 1) = false := beq_eq_false_iff_ne.mpr c7
           have c7b1 : ((Go.bits .and .u8 (ji6) 1) != 1) = true := bne_iff_ne.mpr c7
           have H' := Aside0.mk H
           clear H
           go_wp2
           go_roundg k1
           case measure => have := HK1.out; omega
           case rel => exact ⟨(x5_1), (wrap64 (x9_1 + 1)), (by first | rfl | (simp; done) | (simp [*]; done)), H', ⟨by have := HK1.out; omega⟩, ⟨by (with_reducible repeat (first | apply Kd.V_alloc | apply Kd.V_drewN | apply Kd.V_drew)); exact HO_0.out⟩, ⟨by (with_reducible repeat (first | apply Kd.N_alloc | apply Kd.N_drewN | apply Kd.N_drew)); exact HO_5.out⟩, ⟨by repeat (first | (with_reducible first | exact HB.out | apply below_alloc | apply pw_below_drewN | apply below_drew1) | exact HB.out)⟩⟩
       · rw [if_neg c5] at H
         exact absurd H (by simp)
     · rw [if_neg c4] at H
       have c4b0 : decide (x9_1 < 8) = false := decide_eq_false c4
       clear c4
       have H' := Aside0.mk H
       clear H
       go_wp2
       go_roundg k1
       case measure => have := HK1.out; omega
       case rel => exact ⟨(x5_1), (wrap64 (x9_1 + 1)), (by first | rfl | (simp; done) | (simp [*]; done)), H', ⟨by have := HK1.out; omega⟩, ⟨by (with_reducible repeat (first | apply Kd.V_alloc | apply Kd.V_drewN | apply Kd.V_drew)); exact HO_0.out⟩, ⟨by (with_reducible repeat (first | apply Kd.N_alloc | apply Kd.N_drewN | apply Kd.N_drew)); exact HO_5.out⟩, ⟨by repeat (first | (with_reducible first | exact HB.out | apply below_alloc | apply pw_below_drewN | apply below_drew1) | exact HB.out)⟩⟩
   · rw [if_neg c3] at H
     have c3b0 : decide (x9_1 < (l0.length : Int)) = false := decide_eq_false c3
     clear c3
     obtain rfl := Option.some.inj H
     go_wp2
     go_ret
     exact ⟨_, by first | rfl | (simp [errW_none, errW_some] <;> rfl) | (simp [*, errW_none, errW_some] <;> rfl), by (with_reducible repeat (first | apply Kd.N_alloc | apply Kd.N_drewN | apply Kd.N_drew)); exact HO_5.out, by repeat (first | (with_reducible first | exact HB.out | apply below_alloc | apply pw_below_drewN | apply below_drew1) | exact HB.out)⟩
end Go.Proofs.Ytillfbohengpaaa.PA
end
section
set_option linter.unusedVariables false
set_option linter.unusedSimpArgs false
namespace Go.Proofs.Ytillfbohengpaaa
open Go.RowKit Gf Go.Proofs.YtillfbohengpaaaW.PrintWords PA
def bitB (x : Int) (i : Nat) : Bool := decide (Go.bits .and .u8 (shr .u8 x (i : Int)) 1 = 1)
def shD : Sh := ⟨0, 0, 0, 0, []⟩
def pickTo (p : Nat → Bool) (L : List Sh) (i : Nat) : List Sh := ((List.range i).filter p).map fun j => L.getD j shD
theorem pickTo_succ (p : Nat → Bool) (L : List Sh) (i : Nat) : pickTo p L (i + 1) = if p i then pickTo p L i ++ [L.getD i shD] else pickTo p L i := by
  unfold pickTo
  rw [List.range_succ, List.filter_append, List.map_append]
  cases h : p i <;> simp [h]
def pick (p : Nat → Bool) (L : List Sh) : List Sh := pickTo p L L.length
theorem some_l (a : Int) (L : List Sh) (hl : L.length ≤ 8) : ∀ d i k, i + d = L.length → d < k → testamurlaw08_some.l0 k (L.map sI) a ((pickTo (bitB a) L i).map sI) (L.length : Int) (i : Int) = some ((pick (bitB a) L).map sI) := by
  intro d
  induction d with
  | zero =>
    intro i k hi hk
    obtain ⟨k, rfl⟩ := fuel hk
    simp only [testamurlaw08_some.l0]
    rw [if_neg (by omega)]
    obtain rfl : i = L.length := by omega
    rfl
  | succ d ih =>
    intro i k hi hk
    obtain ⟨k, rfl⟩ := fuel hk
    have hil : i < L.length := by omega
    have hI := ih (i + 1) k (by omega) (by omega)
    rw [pickTo_succ] at hI
    have hlen : (pickTo (bitB a) L i).length ≤ i := by
      unfold pickTo
      rw [List.length_map]
      exact Nat.le_trans (List.length_filter_le _ _) (by simp)
    simp only [testamurlaw08_some.l0]
    rw [if_pos (by omega), if_pos (by omega), if_pos (by omega)]
    by_cases hb : Go.bits .and .u8 (shr .u8 a (i : Int)) 1 = 1
    · rw [if_pos hb, if_pos (by rw [List.length_map]; omega), if_pos (by rw [List.length_map]; omega), rdT_map L i hil, w64 _ (by omega) (by omega)]
      rw [if_pos (show bitB a i = true from decide_eq_true hb), List.map_append, List.getD_eq_getElem?_getD, List.getElem?_eq_getElem hil] at hI
      exact hI
    · rw [if_neg hb, w64 _ (by omega) (by omega)]
      rw [if_neg (by rw [show bitB a i = false from decide_eq_false hb]; decide)] at hI
      exact hI
theorem some_f (a : Int) (L : List Sh) (hl : L.length ≤ 8) (k : Nat) (hk : L.length < k) : testamurlaw08_some.f k (L.map sI) a = some ((pick (bitB a) L).map sI) := by
  unfold testamurlaw08_some.f
  rw [List.length_map]
  exact some_l a L hl L.length 0 k (by omega) hk
structure Ch (I : List Nat) (n : Nat) : Prop where
  lt : ∀ j ∈ I, j < n
  inc : I.Pairwise (· < ·)
theorem ch_filter (p : Nat → Bool) (n : Nat) : Ch ((List.range n).filter p) n :=
  ⟨fun j hj => by have := (List.mem_filter.1 hj).1; simpa using this, List.pairwise_lt_range.sublist List.filter_sublist⟩
theorem ch_len {I : List Nat} {n : Nat} (h : Ch I n) : I.length ≤ n := by
  have key : ∀ (I : List Nat) (lo : Nat), (∀ j ∈ I, lo ≤ j ∧ j < n) → I.Pairwise (· < ·) → I.length ≤ n - lo := by
    intro I
    induction I with
    | nil => intro lo _ _; simp
    | cons a I ih =>
      intro lo hb hp
      rw [List.pairwise_cons] at hp
      have ha := hb a List.mem_cons_self
      have := ih (a + 1) (fun j hj => ⟨hp.1 j hj, (hb j (List.mem_cons_of_mem _ hj)).2⟩) hp.2
      simp only [List.length_cons]; omega
  have := key I 0 (fun j hj => ⟨Nat.zero_le _, h.lt j hj⟩) h.inc
  omega
def chosen (l r : List G) (ep : Int) (m n : Nat) (I : List Nat) : List Sh := I.map fun j => shareG l r ep m n (j + 1)
theorem pick_split (p : Nat → Bool) (l r : List G) (ep : Int) (m n : Nat) : pick p (splitTo l r ep m n n) = chosen l r ep m n ((List.range n).filter p) := by
  unfold pick pickTo chosen
  have hl : (splitTo l r ep m n n).length = n := by simp [splitTo]
  rw [hl]
  refine List.map_congr_left fun j hj => ?_
  have hj' : j < n := by have := (List.mem_filter.1 hj).1; simpa using this
  rw [List.getD_eq_getElem?_getD, List.getElem?_eq_getElem (by rw [hl]; exact hj')]
  simp [splitTo]
section
variable {l r : List G} {ep : Int} {m n : Nat} {I : List Nat}
theorem chosen_alike (h : Ch I n) (hm : m + 1 ≤ n) (hn : n ≤ 8) (hl : l.length ≤ 64) (a : Sh) (rest : List Sh) (he : chosen l r ep m n I = a :: rest) : Alike a rest ∧ a.th = (m : Int) + 1 ∧ a.mn = (n : Int) ∧ a.da.length = l.length ∧ a.ep = ep := by
  have hall : ∀ s ∈ a :: rest, s.th = (m : Int) + 1 ∧ s.mn = (n : Int) ∧ s.da.length = l.length ∧ s.ep = ep ∧ 0 < s.ix ∧ s.ix ≤ (n : Int) := by
    intro s hs
    rw [← he] at hs
    obtain ⟨j, hj, rfl⟩ := List.mem_map.1 hs
    have := h.lt j hj
    refine ⟨rfl, rfl, by simp [shareG, dataG], rfl, ?_, ?_⟩
    · show (0 : Int) < ((j + 1 : Nat) : Int); omega
    · show ((j + 1 : Nat) : Int) ≤ (n : Int); omega
  obtain ⟨h1, h2, h3, h4, _, _⟩ := hall a List.mem_cons_self
  have hinc : (a :: rest).Pairwise (fun x y => x.ix < y.ix) := by
    rw [← he]
    unfold chosen
    rw [List.pairwise_map]
    exact h.inc.imp (fun {x y} hxy => by show ((x + 1 : Nat) : Int) < ((y + 1 : Nat) : Int); omega)
  refine ⟨⟨by omega, by omega, by omega, by omega, fun s hs => ?_, hinc⟩, h1, h2, h3, h4⟩
  obtain ⟨g1, g2, g3, _, g5, g6⟩ := hall s hs
  exact ⟨by omega, by omega, by omega, g5, by omega⟩
theorem chosen_check (h : Ch I n) (hne : I ≠ []) (hm : m + 1 ≤ n) (hn : n ≤ 8) (hl : l.length ≤ 64) (he0 : 0 ≤ ep) (he1 : ep ≤ 1048576) : checkR (chosen l r ep m n I) = 0 ∧ thN (chosen l r ep m n I) = m + 1 ∧ dlN (chosen l r ep m n I) = l.length := by
  cases hc : chosen l r ep m n I with
  | nil => simp [chosen] at hc; exact absurd hc hne
  | cons a rest =>
    obtain ⟨hal, h1, h2, h3, h4⟩ := chosen_alike h hm hn hl a rest hc
    refine ⟨check0_of hal fun s hs => ?_, by simp [thN, h1], h3⟩
    rw [← hc] at hs
    obtain ⟨j, hj, rfl⟩ := List.mem_map.1 hs
    exact ⟨by rw [h4]; rfl, he0, he1⟩
theorem chosen_xs : xsG (chosen l r ep m n I) = I.map fun j => (BitVec.ofNat 8 (j + 1) : G) := by
  unfold xsG chosen
  rw [List.map_map]
  refine List.map_congr_left fun j _ => ?_
  show gI (((j + 1 : Nat) : Int)) = _
  unfold gI
  exact BitVec.ofInt_natCast _ _
theorem g_data (l r : List G) (m i at_ : Nat) (h : at_ < l.length) : g (dataG l r m i) at_ = ev (lineG l r m at_) (BitVec.ofNat 8 i) := by
  rw [g_eq _ _ (by simpa [dataG] using h)]; simp [dataG]
theorem chosen_ys (at_ : Nat) (h : at_ < l.length) : ysG (chosen l r ep m n I) at_ = I.map fun j => ev (lineG l r m at_) (BitVec.ofNat 8 (j + 1)) := by
  unfold ysG chosen
  rw [List.map_map]
  refine List.map_congr_left fun j _ => ?_
  exact g_data l r m (j + 1) at_ h
theorem ofNat_ne {i j : Nat} (hi : i < 8) (hj : j < 8) (h : i ≠ j) : (BitVec.ofNat 8 (i + 1) : G) ≠ BitVec.ofNat 8 (j + 1) := fun e => by
  have := congrArg BitVec.toNat e
  simp at this
  omega
theorem ch_nodup (h : Ch I n) (hn : n ≤ 8) : (I.map fun j => (BitVec.ofNat 8 (j + 1) : G)).Nodup := by
  unfold List.Nodup
  rw [List.pairwise_map]
  exact List.Pairwise.imp_of_mem (fun {x y} hx hy hxy => ofNat_ne (by have := h.lt x hx; omega) (by have := h.lt y hy; omega) (by omega)) h.inc
theorem line_length (l r : List G) (m at_ : Nat) (ha : at_ < l.length) (hr : r.length = l.length * m) : (lineG l r m at_).length = m + 1 := by
  have : (at_ + 1) * m ≤ r.length := by rw [hr]; exact Nat.mul_le_mul_right _ ha
  have h3 : (at_ + 1) * m = at_ * m + m := by rw [Nat.add_mul, Nat.one_mul]
  simp only [lineG, List.length_cons, List.length_take, List.length_drop]
  omega
theorem g_map_nat {β : Type} (f : Nat → G) (I : List Nat) (j : Nat) (h : j < I.length) : g (I.map f) j = f I[j] := by rw [g_eq _ _ (by simpa using h)]; simp
theorem chosen_joinAt (h : Ch I n) (hm : m + 1 ≤ I.length) (hn : n ≤ 8) (hr : r.length = l.length * m) (at_ : Nat) (ha : at_ < l.length) : joinAt (chosen l r ep m n I) (m + 1) at_ = g l at_ := by
  have hch : Ch (I.take (m + 1)) n := ⟨fun j hj => h.lt j (List.mem_of_mem_take hj), h.inc.sublist (List.take_sublist _ _)⟩
  have ht : (chosen l r ep m n I).take (m + 1) = chosen l r ep m n (I.take (m + 1)) := by unfold chosen; rw [List.map_take]
  unfold joinAt
  rw [ht, chosen_xs, chosen_ys at_ ha]
  have hx : (I.take (m + 1)).length = m + 1 := by rw [List.length_take]; omega
  have := coefs_unique ((I.take (m + 1)).map fun j => (BitVec.ofNat 8 (j + 1) : G)) ((I.take (m + 1)).map fun j => ev (lineG l r m at_) (BitVec.ofNat 8 (j + 1))) (lineG l r m at_) (ch_nodup hch hn)
    (by rw [line_length l r m at_ ha hr, List.length_map, hx]) (fun j hj => by
      have hj' : j < (I.take (m + 1)).length := by simpa using hj
      rw [g_map_nat (β := G) _ _ _ hj', g_map_nat (β := G) _ _ _ hj'])
  rw [← this, ev_zero]
  rfl
theorem range_g (l : List G) : (List.range l.length).map (g l) = l := by
  apply List.ext_getElem (by simp)
  intro i h1 h2
  simp [g_eq _ _ h2]
theorem chosen_join (h : Ch I n) (hne : I ≠ []) (hm : m + 1 ≤ n) (hn : n ≤ 8) (hl : l.length ≤ 64) (he0 : 0 ≤ ep) (he1 : ep ≤ 1048576) (hr : r.length = l.length * m) :
    (m + 1 ≤ I.length → joinE (chosen l r ep m n I) = 0 ∧ joinR (chosen l r ep m n I) = l) ∧ (I.length < m + 1 → joinE (chosen l r ep m n I) = 80) := by
  obtain ⟨h1, h2, h3⟩ := chosen_check (r := r) h hne hm hn hl he0 he1
  have hlen : (chosen l r ep m n I).length = I.length := by simp [chosen]
  constructor
  · intro hI
    have hE : joinE (chosen l r ep m n I) = 0 := by unfold joinE; rw [if_pos h1, h2, hlen, if_neg (by omega)]
    refine ⟨hE, ?_⟩
    unfold joinR
    rw [if_pos hE, h2, h3]
    refine (List.map_congr_left fun at_ ha => ?_).trans (range_g l)
    exact chosen_joinAt h hI hn hr at_ (by simpa using ha)
  · intro hI
    unfold joinE; rw [if_pos h1, h2, hlen, if_pos hI]
theorem flat_cut (f : Nat → List G) (m : Nat) (hf : ∀ i, (f i).length = m) : ∀ (n i : Nat), i < n → (((List.range n).flatMap f).drop (i * m)).take m = f i := by
  intro n
  induction n with
  | zero => intro i hi; omega
  | succ n ih =>
    intro i hi
    have hlen : ((List.range n).flatMap f).length = n * m := by
      clear ih hi
      induction n with
      | zero => simp
      | succ n ih => rw [List.range_succ, List.flatMap_append, List.length_append, ih, Nat.succ_mul]; simp [hf]
    rw [List.range_succ, List.flatMap_append]
    simp only [List.flatMap_cons, List.flatMap_nil, List.append_nil]
    by_cases h : i < n
    · have hb : i * m + m ≤ n * m := by
        have := Nat.mul_le_mul_right m (show i + 1 ≤ n by omega)
        rw [Nat.add_mul, Nat.one_mul] at this; exact this
      rw [List.drop_append_of_le_length (by omega), List.take_append_of_le_length (by rw [List.length_drop]; omega)]
      exact ih i h
    · obtain rfl : i = n := by omega
      rw [← hlen, List.drop_left, ← hf i, List.take_length]
theorem other_line (h : Ch I n) (hne : I ≠ []) (hm : m + 1 ≤ n) (hn : n ≤ 8) (hl : l.length ≤ 64) (hI : I.length < m + 1) (s : List G) (hs : s.length = l.length) (at_ : Nat) (ha : at_ < l.length) :
    lineG s (explTo (chosen l r ep m n I) (m + 1) s s.length) m at_ = coefs (xsE (chosen l r ep m n I) (m - I.length)) (ysE (chosen l r ep m n I) at_ (g s at_) (m - I.length)) := by
  have hlen : (chosen l r ep m n I).length = I.length := by simp [chosen]
  have hE : m + 1 - ((chosen l r ep m n I).length + 1) = m - I.length := by omega
  have hf : ∀ i, (explAt (chosen l r ep m n I) (m + 1) s i).length = m := fun i => by rw [explAt_length _ _ _ _ (by omega)]; omega
  have hcut := flat_cut (explAt (chosen l r ep m n I) (m + 1) s) m hf s.length at_ (by omega)
  unfold lineG explTo
  rw [hcut]
  unfold explAt
  rw [hE]
  cases hc : chosen l r ep m n I with
  | nil => simp [chosen] at hc; exact absurd hc hne
  | cons a rest =>
    obtain ⟨hal, _⟩ := chosen_alike h hm hn hl a rest hc
    rw [← hc]
    have hix : ∀ q ∈ a :: rest, 0 < q.ix ∧ q.ix ≤ 8 := fun q hq => by obtain ⟨_, _, _, g1, g2⟩ := hal.all q hq; have := hal.t3; omega
    have hnd := xsE_nodup (a :: rest) (m - I.length) hix hal.inc (by omega)
    rw [← hc] at hnd
    have hz : ev (coefs (xsE (chosen l r ep m n I) (m - I.length)) (ysE (chosen l r ep m n I) at_ (g s at_) (m - I.length))) (g (xsE (chosen l r ep m n I) (m - I.length)) I.length) = g (ysE (chosen l r ep m n I) at_ (g s at_) (m - I.length)) I.length := coefs_at _ _ hnd _ (by rw [xsE_length, hlen]; omega)
    have e1 : g (xsE (chosen l r ep m n I) (m - I.length)) I.length = 0#8 := by
      unfold g xsE
      rw [List.append_assoc, List.getD_eq_getElem?_getD, List.getElem?_append_right (by rw [show (xsG (chosen l r ep m n I)).length = I.length by simp [xsG, chosen]]; exact Nat.le_refl _)]
      simp [xsG, chosen]
    have e2 : g (ysE (chosen l r ep m n I) at_ (g s at_) (m - I.length)) I.length = g s at_ := by
      show (ysE (chosen l r ep m n I) at_ (g s at_) (m - I.length)).getD I.length 0#8 = _
      unfold ysE
      rw [List.append_assoc, List.getD_eq_getElem?_getD, List.getElem?_append_right (by rw [show (ysG (chosen l r ep m n I) at_).length = I.length by simp [ysG, chosen]]; exact Nat.le_refl _)]
      simp [ysG, chosen]
    rw [e1, e2, ev_zero] at hz
    have hcl := coefs_length (xsE (chosen l r ep m n I) (m - I.length)) (ysE (chosen l r ep m n I) at_ (g s at_) (m - I.length))
    rw [xsE_length] at hcl
    generalize coefs (xsE (chosen l r ep m n I) (m - I.length)) (ysE (chosen l r ep m n I) at_ (g s at_) (m - I.length)) = q at *
    cases q with
    | nil => exact absurd hcl (by simp only [List.length_nil]; omega)
    | cons b q => simp at hz; subst hz; rfl
theorem other_share (h : Ch I n) (hne : I ≠ []) (hm : m + 1 ≤ n) (hn : n ≤ 8) (hl : l.length ≤ 64) (hI : I.length < m + 1) (s : List G) (hs : s.length = l.length) (j : Nat) (hj : j ∈ I) :
    shareG s (explTo (chosen l r ep m n I) (m + 1) s s.length) ep m n (j + 1) = shareG l r ep m n (j + 1) := by
  unfold shareG
  congr 1
  unfold dataG
  rw [hs]
  refine List.map_congr_left fun at_ ha => ?_
  have ha' : at_ < l.length := by simpa using ha
  have hol := other_line (r := r) (ep := ep) h hne hm hn hl hI s hs at_ ha'
  rw [hs] at hol
  rw [hol]
  have hlen : (chosen l r ep m n I).length = I.length := by simp [chosen]
  obtain ⟨i, hi, rfl⟩ := List.mem_iff_getElem.1 hj
  cases hc : chosen l r ep m n I with
  | nil => simp [chosen] at hc; exact absurd hc hne
  | cons a rest =>
    obtain ⟨hal, _⟩ := chosen_alike h hm hn hl a rest hc
    have hix : ∀ q ∈ a :: rest, 0 < q.ix ∧ q.ix ≤ 8 := fun q hq => by obtain ⟨_, _, _, g1, g2⟩ := hal.all q hq; have := hal.t3; omega
    have hnd := xsE_nodup (a :: rest) (m - I.length) hix hal.inc (by omega)
    rw [← hc] at hnd ⊢
    have hz : ev (coefs (xsE (chosen l r ep m n I) (m - I.length)) (ysE (chosen l r ep m n I) at_ (g s at_) (m - I.length))) (g (xsE (chosen l r ep m n I) (m - I.length)) i) = g (ysE (chosen l r ep m n I) at_ (g s at_) (m - I.length)) i := coefs_at _ _ hnd _ (by rw [xsE_length, hlen]; omega)
    have e1 : g (xsE (chosen l r ep m n I) (m - I.length)) i = BitVec.ofNat 8 (I[i] + 1) := by
      have : g (xsG (chosen l r ep m n I)) i = BitVec.ofNat 8 (I[i] + 1) := by rw [chosen_xs, g_map_nat (β := G) _ _ _ hi]
      rw [← this]
      unfold g xsE
      rw [List.append_assoc, List.getD_eq_getElem?_getD, List.getElem?_append_left (by simp [xsG, chosen]; exact hi), List.getD_eq_getElem?_getD]
    have e2 : g (ysE (chosen l r ep m n I) at_ (g s at_) (m - I.length)) i = ev (lineG l r m at_) (BitVec.ofNat 8 (I[i] + 1)) := by
      have : g (ysG (chosen l r ep m n I) at_) i = ev (lineG l r m at_) (BitVec.ofNat 8 (I[i] + 1)) := by rw [chosen_ys at_ ha', g_map_nat (β := G) _ _ _ hi]
      rw [← this]
      show (ysE (chosen l r ep m n I) at_ (g s at_) (m - I.length)).getD i 0#8 = (ysG (chosen l r ep m n I) at_).getD i 0#8
      unfold ysE
      rw [List.append_assoc, List.getD_eq_getElem?_getD, List.getElem?_append_left (by simp [ysG, chosen]; exact hi), List.getD_eq_getElem?_getD]
    rw [e1, e2] at hz
    exact hz
end
end Go.Proofs.Ytillfbohengpaaa
end
section
namespace Go.Proofs.Ytillfbohengpaaa.PA
open Go.RowKit Go.Proofs.YtillfbohengpaaaW.PrintWords Go.Proofs.YtillfbohengpaaaW.PrintLast Go.Proofs.YtillfbohengpaaaW.PrintMore
attribute [local go_sem] max2_int min2_int max_two min_two max_three min_three max_four min_four   -- for this text's walks alone
set_option linter.unusedVariables false
set_option linter.unusedSimpArgs false
end Go.Proofs.Ytillfbohengpaaa.PA
end
section
set_option linter.unusedVariables false
set_option linter.unusedSimpArgs false
namespace Go.Proofs.Ytillfbohengpaaa
open Go.RowKit Gf Go.Proofs.YtillfbohengpaaaW.PrintWords PA
end Go.Proofs.Ytillfbohengpaaa
end
