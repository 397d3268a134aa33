/-
  WALK of the law FieldValues.
-/
import Derived.Test.YtillfbohengpaaaAx
set_option linter.unusedVariables false
set_option linter.unusedSimpArgs false
namespace Go.Proofs.Ytillfbohengpaaa
open Go.RowKit Gf Go.Sort
attribute [local go_sem] bits_gx
/-- The values of l at the first k places. -/
def valsTo (l xs : List G) (k : Nat) : List G := (List.range k).map fun j => ev l (g xs j)
theorem valsTo_succ (l xs : List G) (k : Nat) : valsTo l xs (k + 1) = valsTo l xs k ++ [ev l (g xs k)] := by simp [valsTo, List.range_succ]
theorem valsTo_length (l xs : List G) (k : Nat) : (valsTo l xs k).length = k := by simp [valsTo]
theorem g_valsTo (l xs : List G) (k j : Nat) (h : j < k) : g (valsTo l xs k) j = ev l (g xs j) := by
  rw [g_eq _ j (by rw [valsTo_length]; exact h)]; simp [valsTo]
theorem coefs_vals (l xs : List G) (hn : l.length ≤ xs.length) (hd : xs.Nodup) : coefs xs (valsTo l xs xs.length) = l ++ List.replicate (xs.length - l.length) 0#8 := by
  symm
  refine coefs_unique _ _ _ hd (by simp; omega) (fun j hj => ?_)
  rw [ev_zeros, g_valsTo _ _ _ _ hj]
theorem g_pad (l : List G) (k j : Nat) : g (l ++ List.replicate k 0#8) j = g l j := by
  unfold g
  simp only [List.getD_eq_getElem?_getD, List.getElem?_append, List.getElem?_replicate]
  split
  · rfl
  · rename_i h
    rw [List.getElem?_eq_none (by omega)]
    split <;> rfl
theorem g_out (l : List G) (j : Nat) (h : l.length ≤ j) : g l j = 0#8 := by
  unfold g
  simp only [List.getD_eq_getElem?_getD]
  rw [List.getElem?_eq_none h]
  rfl
set_option maxRecDepth 100000 in
set_option maxHeartbeats 2000000 in
theorem values_u {A B : Option Addr} {n m c d : Nat} {l xs : List G} {w : World} (hl : RL gv w A n l) (hx : RL gv w B m xs) (x : G) :
    Calls Try.prog 7 #[.slice A n c, .slice B m d, .int .u8 (x.toNat : Int)] w fun e w' => e = .returned (.bool true) ∧ Below w.heap.size w w' := by
  by_cases hm : m ≤ 12
  case neg =>
    go_enter Try.func7, Try.ntmps7
    go_wp2_with fail
    refine (sane_u _).mono ?_
    rintro e w1 ⟨rfl, hb1⟩
    have hm2 : 12 < m := by omega
    have hm3 : (12 : Int) < (m : Int) := by omega
    go_wp2_with fail
    go_ret
    exact ⟨rfl, hb1⟩
  by_cases hnm : n ≤ m
  case neg =>
    go_enter Try.func7, Try.ntmps7
    go_wp2_with fail
    refine (sane_u _).mono ?_
    rintro e w1 ⟨rfl, hb1⟩
    have hm2 : ¬ 12 < m := by omega
    have hm3 : ¬ (12 : Int) < (m : Int) := by omega
    have hm4 : m < n := by omega
    have hm5 : (m : Int) < (n : Int) := by omega
    go_wp2_with fail
    go_ret
    exact ⟨rfl, hb1⟩
  have hlx := Lib.hid hx.1
  have hll := Lib.hid hl.1
  have hm2 : ¬ 12 < m := by omega
  have hm3 : ¬ (12 : Int) < (m : Int) := by omega
  have hm4 : ¬ m < n := by omega
  have hm5 : ¬ (m : Int) < (n : Int) := by omega
  obtain ⟨i0, hi, hz0, hz1, hz2⟩ := info_parts Try.info5
  go_enter Try.func7, Try.ntmps7
  go_wp2_with fail
  refine (sane_u _).mono ?_
  rintro e w1 ⟨rfl, hb1⟩
  go_wp2_with fail
  generalize hW0 : w1.alloc _ = W0
  have hv0 : OwnL gv 5 W0 w.heap.size (.slice (some ⟨w1.heap.size, 0, none⟩) 0 0) 0 (valsTo l xs 0) := by
    rw [← hW0]; exact OwnL.lit w1 _ [] 0 rfl rfl hb1.size (by decide)
  have hB0 : Below w.heap.size w W0 := by rw [← hW0]; exact balloc hb1 _
  clear hW0 hm2 hm3 hm4 hm5
  go_loopw [7, 8] (fun sv si wr => ∃ (k : Nat), k ≤ m ∧ si = .int .i64 k ∧ OwnL gv 5 wr w.heap.size sv k (valsTo l xs k) ∧ Below w.heap.size w wr) (fun _ si _ => m - (intOf si).toNat)
  case atStart => exact ⟨0, by omega, rfl, hv0, hB0⟩
  case round =>
    obtain ⟨k, hk, rfl, hov, hB⟩ := hrel
    clear hv0 hB0 hb1
    by_cases hlt : k < m
    · obtain ⟨bx, ox, rfl, hbx, hcx⟩ := hx.atg k hlt
      replace hcx := (hB.cell (p := ⟨bx, ox + k, none⟩) hbx).trans hcx
      generalize hX : g xs k = X at hcx
      have HX := Lib.hid hX; clear hX
      go_wp2_with fail
      refine (eval_u _ _ _ _ _ _ (hl.below hB)).mono ?_
      rintro e w2 ⟨rfl, hb2⟩
      have hB2 := bthen hB hb2
      replace hov := hov.below hb2
      clear hcx hb2
      go_wp2_with (at_builtin; refine wpList_app rfl _ _ 30 rfl (ev l X) rfl slice_u8 hi hz0 hz1 hz2 rfl rfl rfl hov rfl hB2.size (by omega) (by omega) ?_; intro v5 w5 hov5 hgr5 hob5)
      refine ⟨⟨k + 1, by omega, by go_num, ?_, hB2.grown hgr5 hB2.size (fun j hj => (hov.lt j hj).1)⟩, by simp [intOf]; omega⟩
      rw [valsTo_succ, HX.out]
      exact hov5
    · obtain rfl : k = m := by omega
      obtain ⟨Av, cv, rfl, hrv⟩ := hov.rl
      clear hov
      by_cases hd : xs.Nodup
      · have hco := coefs_vals l xs (by rw [hlx.out, hll.out]; exact hnm) hd
        rw [hlx.out, hll.out] at hco
        have HCO := Lib.hid hco; clear hco
        go_wp2_with fail
        refine (through_ok _ _ _ _ _ _ _ _ _ (hx.below hB) hrv hd (by omega)).mono ?_
        rintro e w2 ⟨rfl, hb2⟩
        rw [HCO.out, ev_zeros]
        have hrv2 := hrv.below hb2
        have hB2 := bthen hB hb2
        clear hb2 hrv
        go_wp2_with fail
        refine (coefs_ok _ _ _ _ _ _ _ _ (hx.below hB2) hrv2 hd (by omega)).mono ?_
        rintro e w3 ⟨v3, rfl, hov3, hb3⟩
        rw [HCO.out] at hov3
        obtain ⟨A3, c3, rfl, hrv3⟩ := hov3.rl
        have hB3 := bthen hB2 hb3
        clear hb3 hrv2 hov3
        go_wp2_with fail
        refine (eval_u _ _ _ _ _ _ (hl.below hB3)).mono ?_
        rintro e w4 ⟨rfl, hb4⟩
        have hB4 := bthen hB3 hb4
        have hrv3' := hrv3.below hb4
        clear hb4
        go_wp2_with fail
        clear HCO hrv3 hB hB2 hB3
        go_loopw [13] (fun si wr => ∃ (j : Nat), j ≤ k ∧ si = .int .i64 j ∧ Below w.heap.size w wr ∧ RL gv wr A3 k (l ++ List.replicate (k - n) 0#8)) (fun si _ => k - (intOf si).toNat)
        case atStart => exact ⟨0, by omega, rfl, hB4, hrv3'⟩
        case round =>
          obtain ⟨j, hj, rfl, hB5, hr5⟩ := hrel
          clear hB4 hrv3'
          by_cases hjk : j < k
          · obtain ⟨b3, o3, rfl, hb3, hc3⟩ := hr5.atg j hjk
            rw [g_pad] at hc3
            have hjk2 : (j : Int) < (k : Int) := by omega
            by_cases hjn : j < n
            · obtain ⟨bl, ol, rfl, hbl, hcl⟩ := hl.atg j hjn
              replace hcl := (hB5.cell (p := ⟨bl, ol + j, none⟩) hbl).trans hcl
              generalize g l j = T at *
              have hjn2 : (j : Int) < (n : Int) := by omega
              have hjn3 : decide ((n : Int) ≤ (j : Int)) = false := decide_eq_false (by omega)
              have hjn4 : decide (n ≤ j) = false := decide_eq_false (by omega)
              go_wp2_with fail
              go_quiet (fail)
              go_wp2_with fail
              refine ⟨⟨j + 1, by omega, by go_num, bdrewN hB5 _, hr5.below (bdrewN (Below.refl _ _) _)⟩, by simp [intOf]; omega⟩
            · rw [g_out l j (by rw [hll.out]; omega)] at hc3
              have hc3'' : wr.cell? ⟨b3, o3 + j, none⟩ = some (.int .u8 0) := hc3
              have hjn2 : decide ((j : Int) < (n : Int)) = false := decide_eq_false (by omega)
              have hjn3 : (n : Int) ≤ (j : Int) := by omega
              have hjn4 : decide (j < n) = false := decide_eq_false (by omega)
              clear hc3
              go_wp2_with fail
              go_quiet (fail)
              go_wp2_with fail
              refine ⟨⟨j + 1, by omega, by go_num, bdrewN hB5 _, hr5.below (bdrewN (Below.refl _ _) _)⟩, by simp [intOf]; omega⟩
          · obtain rfl : j = k := by omega
            go_wp2_with fail
            go_ret
            exact ⟨rfl, hB5⟩
      · go_wp2_with fail
        refine (through_bad _ _ _ _ _ _ _ _ _ _ (hx.below hB) hrv (fun h => hd h.1)).mono ?_
        rintro e w2 ⟨rfl, hb2⟩
        have hrv2 := hrv.below hb2
        have hB2 := bthen hB hb2
        clear hb2 hrv
        go_wp2_with fail
        refine (coefs_bad _ _ _ _ _ _ _ _ _ (hx.below hB2) hrv2 (fun h => hd h.1)).mono ?_
        rintro e w3 ⟨rfl, hb3⟩
        go_wp2_with fail
        go_ret
        exact ⟨rfl, bthen hB2 hb3⟩
end Go.Proofs.Ytillfbohengpaaa
