/-
  WALKS: field.powers, its iterator, and field.Eval.
-/
import Derived.Test.YtillfbohengpaaaRf
import Derived.Test.YtillfbohengpaaaMul
import Derived.Deep.LoopGhost
import Derived.Shelf.RegionOpen
set_option linter.unusedVariables false
set_option linter.unusedSimpArgs false
namespace Go.Proofs.Ytillfbohengpaaa
open Go.RowKit Go.Shelf Gf
attribute [local go_sem] Oper.semAt_some
theorem powers_u (a : G) (w : World) : Calls Try.prog 39 #[.int .u8 (a.toNat : Int)] w fun e w' =>
    e = .returned (.func (.func 56) #[] #[.pointer (some ⟨w.heap.size, 0, none⟩)]) ∧ w' = w.alloc (.cells #[.int .u8 (a.toNat : Int)] 5) := by
  go_enter Try.func39, Try.ntmps39
  go_wp2_with fail
  go_ret
  exact ⟨rfl, rfl⟩
set_option maxHeartbeats 1000000 in
theorem powers_seq (a : G) (B N n : Nat) (w : World) :
    SeqJ Fence.wide n Try.prog 56 #[.pointer (some ⟨B, 0, none⟩)] (fun x : G => #[.int .u8 (x.toNat : Int)])
      (fun pre W => W.cell? ⟨B, 0, none⟩ = some (.int .u8 (a.toNat : Int)) ∧ pre.length ≤ N) (fun pre x => x = pws a pre.length) (fun _ => False) (fun _ => True) w := by
  intro l J Jx W hW hJ hBd hY h0
  refine callsIn_of_wp Try.func56 rfl trivial ?_ rfl
  simp only [Try.ntmps56, List.size_toArray, List.length_cons, List.length_nil, Nat.reduceAdd, Nat.reduceSub, Array.replicate_succ, Array.replicate_zero, List.push_toArray, List.append_toArray, List.nil_append, List.cons_append]
  have hro : Fence.wide.round = none := rfl
  gi_wp2
  gi_loopw [3] (fun p wr => ∃ pre : List G, p = .int .u8 ((pws a pre.length).toNat : Int) ∧ J pre wr)
    (fun p wr => leastOf (fun m => ∃ pre : List G, pre.length + m = N ∧ p = .int .u8 ((pws a pre.length).toNat : Int) ∧ J pre wr))
  case atStart => exact ⟨[], rfl, h0⟩
  case round =>
    obtain ⟨pre0, rfl, hJ0⟩ := hrel
    have hp0 : ∃ m, (∃ pre : List G, pre.length + m = N ∧ Value.int .u8 ((pws a pre0.length).toNat : Int) = .int .u8 ((pws a pre.length).toNat : Int) ∧ J pre wr) := ⟨N - pre0.length, pre0, by have := (hBd _ _ hJ0).2; omega, rfl, hJ0⟩
    obtain ⟨⟨pre, hlen, hpe, hJp⟩, _⟩ := leastOf_spec hp0
    have hq : pws a pre0.length = pws a pre.length := by
      simp only [Value.int.injEq, true_and] at hpe
      exact BitVec.eq_of_toNat_eq (by omega)
    have HQ := Lib.hid hq
    have HL := Lib.hid hlen
    clear hq hlen hpe hp0 hJ0
    obtain ⟨fn, tmps, assign, body, hy, hR⟩ := hY pre (pws a pre.length) wr hJp rfl
    rw [← HQ.out] at hy hR
    gi_wp2
    refine ⟨fun h => absurd h (by decide), hR.mono ?_⟩
    rintro e W3 (⟨rfl, hJ3⟩ | ⟨rfl, hJx3⟩)
    · obtain ⟨hc3, hl3⟩ := hBd _ _ hJ3
      gi_wp2
      refine ⟨trivial, fun h => absurd h (by decide), (callsIn_wide.2 (mul_u _ _ _)).mono ?_⟩
      rintro e W4 ⟨rfl, hb4⟩
      gi_wp2
      have hJ4 := hJ _ _ _ none hJ3 (grown_of_below hb4 none) (fun r e => by cases e)
      have hp1 : ∃ m, (∃ p : List G, p.length + m = N ∧ Value.int .u8 ((mul (pws a pre0.length) a).toNat : Int) = .int .u8 ((pws a p.length).toNat : Int) ∧ J p W4) :=
        ⟨N - (pre.length + 1), pre ++ [pws a pre0.length], by simp at hl3 ⊢; omega, by simp [HQ.out, pws], hJ4⟩
      go_roundw
      case rel => exact ⟨pre ++ [pws a pre0.length], by simp [HQ.out, pws], hJ4⟩
      case measure =>
        have hl := HL.out
        refine Nat.lt_of_le_of_lt ((leastOf_spec hp1).2 (N - (pre.length + 1)) ⟨pre ++ [pws a pre0.length], by simp at hl3 ⊢; omega, by simp [HQ.out, pws], hJ4⟩) ?_
        show _ < leastOf _
        simp at hl3
        omega
    · gi_wp2
      go_end0
      exact ⟨⟨_, rfl⟩, .inr ⟨_, trivial, hJx3⟩⟩
theorem eval_round (n : Nat) (w W W4 : World) (A : Option Addr) (c k : Nat) (x : G) (l : List G) (y : G) (hn : n = w.heap.size) (hB : Below n w W) (hb4 : Below W.heap.size W W4) (hlt : k < l.length) (hsz : n + 1 + 1 + 1 < W.heap.size)
    (hc0 : W.cell? ⟨n, 0, none⟩ = some (.slice A l.length c)) (k1 : W4.cell? ⟨n + 1, 0, none⟩ = some (gv y)) (k2 : W4.frozen? ⟨n + 1, 0, none⟩ = false)
    (k3 : W4.cell? ⟨n + 1 + 1, 0, none⟩ = some (.int .i64 (k : Int))) (k4 : W4.frozen? ⟨n + 1 + 1, 0, none⟩ = false) (hc3 : W.cell? ⟨n + 1 + 1 + 1, 0, none⟩ = some (gv x)) (z : G) (hz : evTo l x (k + 1) = z) (pre : List G) (hp : pre.length = k + 1) :
    KeepsOthers W ((W4.setCell ⟨n + 1, 0, none⟩ (gv z)).setCell ⟨n + 1 + 1, 0, none⟩ (.int .i64 ((k : Int) + 1))) ∧
    ((pre.length ≤ l.length ∧ ((W4.setCell ⟨n + 1, 0, none⟩ (gv z)).setCell ⟨n + 1 + 1, 0, none⟩ (.int .i64 ((k : Int) + 1))).cell? ⟨n, 0, none⟩ = some (.slice A l.length c) ∧
      ((W4.setCell ⟨n + 1, 0, none⟩ (gv z)).setCell ⟨n + 1 + 1, 0, none⟩ (.int .i64 ((k : Int) + 1))).cell? ⟨n + 1, 0, none⟩ = some (gv (evTo l x pre.length)) ∧
      ((W4.setCell ⟨n + 1, 0, none⟩ (gv z)).setCell ⟨n + 1 + 1, 0, none⟩ (.int .i64 ((k : Int) + 1))).frozen? ⟨n + 1, 0, none⟩ = false ∧
      ((W4.setCell ⟨n + 1, 0, none⟩ (gv z)).setCell ⟨n + 1 + 1, 0, none⟩ (.int .i64 ((k : Int) + 1))).cell? ⟨n + 1 + 1, 0, none⟩ = some (.int .i64 (pre.length : Int)) ∧
      ((W4.setCell ⟨n + 1, 0, none⟩ (gv z)).setCell ⟨n + 1 + 1, 0, none⟩ (.int .i64 ((k : Int) + 1))).frozen? ⟨n + 1 + 1, 0, none⟩ = false ∧
      ((W4.setCell ⟨n + 1, 0, none⟩ (gv z)).setCell ⟨n + 1 + 1, 0, none⟩ (.int .i64 ((k : Int) + 1))).cell? ⟨n + 1 + 1 + 1, 0, none⟩ = some (gv x)) ∧
      Below n w ((W4.setCell ⟨n + 1, 0, none⟩ (gv z)).setCell ⟨n + 1 + 1, 0, none⟩ (.int .i64 ((k : Int) + 1)))) := by
  subst hz
  have h0 : W4.cell? ⟨n, 0, none⟩ = some (.slice A l.length c) := (hb4.cell (p := ⟨n, 0, none⟩) (by show n < _; omega)).trans hc0
  have h3 : W4.cell? ⟨n + 1 + 1 + 1, 0, none⟩ = some (gv x) := (hb4.cell (p := ⟨n + 1 + 1 + 1, 0, none⟩) hsz).trans hc3
  refine ⟨((keepsOthers_below hb4).trans (KeepsOthers.setCell _ _ _)).trans (KeepsOthers.setCell _ _ _), ⟨by omega, ?_, ?_, ?_, ?_, ?_, ?_⟩, ?_⟩
  · rw [cell_set_ne _ _ _ _ (by dsimp only; omega), cell_set_ne _ _ _ _ (by dsimp only; omega)]; exact h0
  · rw [cell_set_ne _ _ _ _ (by dsimp only; omega), hp]; exact World.cell?_setCell_same' _ _ _ (by rw [k1]; rfl)
  · rw [World.frozen?_setCell, World.frozen?_setCell]; exact k2
  · rw [hp]; exact World.cell?_setCell_same' _ _ _ (by rw [cell_set_ne _ _ _ _ (by dsimp only; omega), k3]; rfl)
  · rw [World.frozen?_setCell, World.frozen?_setCell]; exact k4
  · rw [cell_set_ne _ _ _ _ (by dsimp only; omega), cell_set_ne _ _ _ _ (by dsimp only; omega)]; exact h3
  · exact ((hB.trans (hb4.mono (by omega))).setCell (p := ⟨n + 1, 0, none⟩) (by simp) _).setCell (p := ⟨n + 1 + 1, 0, none⟩) (by show n ≤ n + 1 + 1; omega) _
set_option maxRecDepth 100000 in
set_option maxHeartbeats 2000000 in
theorem eval_u (A : Option Addr) (n c : Nat) (l : List G) (x : G) (w : World) (hr : RL gv w A n l) :
    Calls Try.prog 22 #[.slice A n c, .int .u8 (x.toNat : Int)] w fun e w' => e = .returned (.int .u8 ((ev l x).toNat : Int)) ∧ Below w.heap.size w w' := by
  obtain rfl := hr.1
  refine (callsIn_wide (n := 5)).1 ?_
  refine callsIn_of_wp_marks Try.func22 rfl trivial ?_ rfl
  simp only [Try.ntmps22, List.size_toArray, List.length_cons, List.length_nil, Nat.reduceAdd, Nat.reduceSub, Array.replicate_succ, Array.replicate_zero, List.push_toArray, List.append_toArray, List.nil_append, List.cons_append]
  have hro : Fence.wide.round = none := rfl
  gi_wp2
  refine ⟨trivial, (callsIn_wide.2 (powers_u _ _)).mono ?_⟩
  rintro e w1 ⟨rfl, rfl⟩
  gi_wp2
  have h4 : ∀ y : World, y = (((w.alloc (.cells #[.slice A l.length c] 30)).alloc (.cells #[.int .u8 0] 5)).alloc (.cells #[.int .i64 0] 3)).alloc (.cells #[gv x] 5) →
      y.heap.size = w.heap.size + 4 ∧ Below w.heap.size w y ∧ y.cell? ⟨w.heap.size, 0, none⟩ = some (.slice A l.length c) ∧ y.cell? ⟨w.heap.size + 1, 0, none⟩ = some (.int .u8 0) ∧ y.frozen? ⟨w.heap.size + 1, 0, none⟩ = false ∧
      y.cell? ⟨w.heap.size + 2, 0, none⟩ = some (.int .i64 0) ∧ y.frozen? ⟨w.heap.size + 2, 0, none⟩ = false ∧ y.cell? ⟨w.heap.size + 3, 0, none⟩ = some (gv x) := by
    rintro y rfl
    refine ⟨by simp, balloc (balloc (balloc (below_alloc1 _ _) _) _) _, ?_, ?_, ?_, ?_, ?_, ?_⟩
    · rw [cell_old _ _ _ (by simp; omega), cell_old _ _ _ (by simp; omega), cell_old _ _ _ (by simp), cell_new _ _ _ _ _ _ rfl]; rfl
    · rw [cell_old _ _ _ (by simp), cell_old _ _ _ (by simp), cell_new _ _ _ _ _ _ (by simp)]; rfl
    · rw [frozen_old _ _ _ (by simp), frozen_old _ _ _ (by simp), frozen_new _ _ _ _ _ (by simp)]
    · rw [cell_old _ _ _ (by simp), cell_new _ _ _ _ _ _ (by simp)]; rfl
    · rw [frozen_old _ _ _ (by simp), frozen_new _ _ _ _ _ (by simp)]
    · rw [cell_new _ _ _ _ _ _ (by simp)]; rfl
  generalize hW0 : (((w.alloc (.cells #[.slice A l.length c] 30)).alloc (.cells #[.int .u8 0] 5)).alloc (.cells #[.int .i64 0] 3)).alloc (.cells #[gv x] 5) = W0
  obtain ⟨hsz, hB0, hc0, hc1, hf1, hc2, hf2, hc3⟩ := h4 W0 hW0.symm
  clear h4 hW0
  have hcl : l.length ≤ 9223372036854775807 := hr.2.1
  refine rangeFuncJ hro (by decide) (gf := 56) (lb := #[.pointer (some ⟨w.heap.size + 1 + 1 + 1, 0, none⟩)]) rfl trivial (enters_of Try.func56 (by kernel_rfl) rfl)
    (powers_seq x (w.heap.size + 1 + 1 + 1) l.length _ _) (fun _ => rfl)
    (fun pre W => (pre.length ≤ l.length ∧ W.cell? ⟨w.heap.size, 0, none⟩ = some (.slice A l.length c) ∧ W.cell? ⟨w.heap.size + 1, 0, none⟩ = some (gv (evTo l x pre.length)) ∧ W.frozen? ⟨w.heap.size + 1, 0, none⟩ = false ∧
      W.cell? ⟨w.heap.size + 1 + 1, 0, none⟩ = some (.int .i64 (pre.length : Int)) ∧ W.frozen? ⟨w.heap.size + 1 + 1, 0, none⟩ = false ∧ W.cell? ⟨w.heap.size + 1 + 1 + 1, 0, none⟩ = some (gv x)) ∧ Below w.heap.size w W)
    (fun co pre W => (co = .exit 0 ∧ W.cell? ⟨w.heap.size + 1, 0, none⟩ = some (gv (ev l x)) ∧ W.frozen? ⟨w.heap.size + 1, 0, none⟩ = false) ∧ Below w.heap.size w W)
    (OwnFrom.and (Own.from (fun s A B row hs hg hr => ⟨hs.1, cell_kept hs.2.1 hg hr, cell_kept hs.2.2.1 hg hr, (frozen_kept hs.2.2.1 hg hr).trans hs.2.2.2.1, cell_kept hs.2.2.2.2.1 hg hr, (frozen_kept hs.2.2.2.2.1 hg hr).trans hs.2.2.2.2.2.1, cell_kept hs.2.2.2.2.2.2 hg hr⟩) _) (ownFrom_below (Nat.le_refl _) (by omega)))
    (fun co => OwnFrom.and (Own.from (fun s A B row hs hg hr => ⟨hs.1, cell_kept hs.2.1 hg hr, (frozen_kept hs.2.1 hg hr).trans hs.2.2⟩) _) (ownFrom_below (Nat.le_refl _) (by omega)))
    (fun pre W h => ⟨h.1.2.2.2.2.2.2, h.1.1⟩)
    ⟨⟨by simp, hc0, hc1, hf1, hc2, hf2, hc3⟩, hB0⟩
    (fun p => { tmps := #[.slice A l.length c, gv x, .pointer (some ⟨w.heap.size, 0, none⟩), undef, .pointer (some ⟨w.heap.size + 1, 0, none⟩), .pointer (some ⟨w.heap.size + 1 + 1, 0, none⟩), gv p, gv x, .func (.func 56) #[] #[.pointer (some ⟨w.heap.size + 1 + 1 + 1, 0, none⟩)], gv p, undef, undef, undef, undef, undef, undef, undef, undef, undef, undef, undef, undef, undef, undef, undef], defers := [] })
    ?assign ?body ?done ?stop
  case assign =>
    intro l x W K hK
    gi_wp2
    exact hK
  case body =>
    rintro lo pre p W ⟨⟨hk, hc0, hc1, hf1, hc2, hf2, hc3⟩, hB⟩ rfl
    by_cases hlt : pre.length < l.length
    · obtain ⟨b, o, rfl, hb, hcb⟩ := hr.2.2 pre.length hlt
      have hcw := (hB.cell (p := ⟨b, o + pre.length, none⟩) hb).trans hcb
      have hct : ((pre.length : Int) == (l.length : Int)) = false := by rw [beq_eq_false_iff_ne]; omega
      gi_wp2
      have hmo : Try.prog.follows .mixedOrders = true := by kernel_rfl
      have h3 := World.block_lt_of_cell? W _ hc3
      have h1 : w.heap.size + 1 < W.heap.size := by dsimp only at h3; omega
      have h2 : w.heap.size + 1 + 1 < W.heap.size := by dsimp only at h3; omega
      gi_region_with_o (refine ⟨trivial, (CallsIn.inRound lo (callsIn_wide.2 (mul_u _ _ _))).mono ?_⟩; rintro e W4 ⟨rfl, hb4⟩; replace hb4 : Below W.heap.size W W4 := ⟨hb4.os, hb4.tape, hb4.output, hb4.size, hb4.block⟩; have k1 := (hb4.cell (p := ⟨w.heap.size + 1, 0, none⟩) h1).trans hc1; have k2 := (hb4.frozen (p := ⟨w.heap.size + 1, 0, none⟩) h1).trans hf1; have k3 := (hb4.cell (p := ⟨w.heap.size + 1 + 1, 0, none⟩) h2).trans hc2; have k4 := (hb4.frozen (p := ⟨w.heap.size + 1 + 1, 0, none⟩) h2).trans hf2)
      all_goals
        have hb5 : Below W.heap.size W ‹World› := by assumption
        gi_wp2
        rw [bits_xor_g]
        exact eval_round w.heap.size w W _ _ c pre.length x l _ rfl hB hb5 hlt h3 hc0 (by assumption) (by assumption) (by assumption) (by assumption) hc3 _ (evTo_succ l x _ hlt) _ (by simp)
    · have hl : pre.length = l.length := by omega
      have he : evTo l x pre.length = ev l x := by rw [hl, evTo_all]
      rw [he] at hc1
      have HE := Lib.hid he; clear he
      have ht : ((pre.length : Int) == (l.length : Int)) = true := by rw [hl]; simp
      clear hl
      gi_wp2
      exact ⟨KeepsOthers.refl _, ⟨rfl, hc1, hf1⟩, hB⟩
  case done =>
    intro D xs W _ h
    exact h.elim
  case stop =>
    rintro D co pre W hD _ ⟨⟨rfl, hc, hf⟩, hB⟩ hK
    gi_wp2
    have hK' := (KeepsOthers.setCell W ⟨w.heap.size + 1, 0, none⟩ (gv (ev l x))).same D _ hK rfl
    have hc5 := cell_kept (World.cell?_setCell_same' W ⟨w.heap.size + 1, 0, none⟩ (gv (ev l x)) (by rw [hc]; rfl)) (grownBy_putObj' _ D (.deferred none)) (fun r e => by cases e; exact ⟨_, hK', rfl⟩)
    refine ⟨by simp, .inl ⟨_, _, rfl, run_takeDeferred hK', ?_⟩⟩
    refine ⟨gv (ev l x), ?_, rfl, (hB.setCell (p := ⟨w.heap.size + 1, 0, none⟩) (by simp) _).trans (belowK_b (w := w) (Nat.le_refl _) _ D _ _ (by omega) hK' rfl rfl)⟩
    simp [results, Try.f22, go_sem, hc5]
end Go.Proofs.Ytillfbohengpaaa
