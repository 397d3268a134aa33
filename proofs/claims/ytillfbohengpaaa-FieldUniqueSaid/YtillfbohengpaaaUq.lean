/-
  WALK of the law FieldUnique.
-/
import Derived.Test.YtillfbohengpaaaOpen
import Derived.Test.YtillfbohengpaaaVal
set_option linter.unusedVariables false
set_option linter.unusedSimpArgs false
namespace Go.Proofs.Ytillfbohengpaaa
open Go.RowKit Gf Go.Sort
attribute [local go_sem] bits_gx
/-- Does 'other' have at most n coefficients, and the values at the first k places? -/
def sameTo (other xs ys : List G) (p n : Nat) : Nat → Bool
  | 0 => decide (p ≤ n)
  | k + 1 => sameTo other xs ys p n k && decide (ev other (g xs k) = g ys k)
theorem sameTo_true (other xs ys : List G) (p n : Nat) : ∀ k, sameTo other xs ys p n k = true → p ≤ n ∧ ∀ j, j < k → ev other (g xs j) = g ys j
  | 0, h => ⟨of_decide_eq_true h, fun j hj => by omega⟩
  | k + 1, h => by
    simp only [sameTo, Bool.and_eq_true, decide_eq_true_eq] at h
    obtain ⟨h1, h2⟩ := sameTo_true other xs ys p n k h.1
    refine ⟨h1, fun j hj => ?_⟩
    by_cases e : j = k
    · subst e; exact h.2
    · exact h2 j (by omega)
theorem coefs_other (other xs ys : List G) (p n : Nat) (hx : xs.length = n) (hp : other.length = p) (hd : xs.Nodup) (h : sameTo other xs ys p n n = true) : coefs xs ys = other ++ List.replicate (n - p) 0#8 := by
  obtain ⟨h1, h2⟩ := sameTo_true _ _ _ _ _ _ h
  symm
  refine coefs_unique _ _ _ hd (by simp [hp, hx]; omega) (fun j hj => ?_)
  rw [ev_zeros, h2 j (by omega)]
theorem g_beq (a b : G) : ((a.toNat : Int) == (b.toNat : Int)) = decide (a = b) := by
  rw [Bool.eq_iff_iff, beq_iff_eq, decide_eq_true_eq]
  constructor
  · intro h; exact BitVec.eq_of_toNat_eq (by omega)
  · rintro rfl; rfl
set_option maxRecDepth 100000 in
set_option maxHeartbeats 2000000 in
theorem unique_u {A B O : Option Addr} {n m p c d co : Nat} {xs ys other : List G} {w : World} (hx : RL gv w A n xs) (hy : RL gv w B m ys) (ho : RL gv w O p other) (x : G) :
    Calls Try.prog 6 #[.slice A n c, .slice B m d, .slice O p co, .int .u8 (x.toNat : Int)] w fun e w' => e = .returned (.bool true) ∧ Below w.heap.size w w' := by
  by_cases hn : n ≤ 12
  case neg =>
    go_enter Try.func6, Try.ntmps6
    go_wp2_with fail
    refine (sane_u _).mono ?_
    rintro e w1 ⟨rfl, hb1⟩
    have h2 : 12 < n := by omega
    have h3 : (12 : Int) < (n : Int) := by omega
    go_wp2_with fail
    go_ret
    exact ⟨rfl, hb1⟩
  by_cases hm : m ≤ 20
  case neg =>
    go_enter Try.func6, Try.ntmps6
    go_wp2_with fail
    refine (sane_u _).mono ?_
    rintro e w1 ⟨rfl, hb1⟩
    have h2 : ¬ 12 < n := by omega
    have h3 : ¬ (12 : Int) < (n : Int) := by omega
    have h4 : 20 < m := by omega
    have h5 : (20 : Int) < (m : Int) := by omega
    go_wp2_with fail
    go_ret
    exact ⟨rfl, hb1⟩
  by_cases hp : p ≤ 20
  case neg =>
    go_enter Try.func6, Try.ntmps6
    go_wp2_with fail
    refine (sane_u _).mono ?_
    rintro e w1 ⟨rfl, hb1⟩
    have h2 : ¬ 12 < n := by omega
    have h3 : ¬ (12 : Int) < (n : Int) := by omega
    have h4 : ¬ 20 < m := by omega
    have h5 : ¬ (20 : Int) < (m : Int) := by omega
    have h6 : 20 < p := by omega
    have h7 : (20 : Int) < (p : Int) := by omega
    go_wp2_with fail
    go_ret
    exact ⟨rfl, hb1⟩
  have h2 : ¬ 12 < n := by omega
  have h3 : ¬ (12 : Int) < (n : Int) := by omega
  have h4 : ¬ 20 < m := by omega
  have h5 : ¬ (20 : Int) < (m : Int) := by omega
  have h6 : ¬ 20 < p := by omega
  have h7 : ¬ (20 : Int) < (p : Int) := by omega
  by_cases hd : xs.Nodup ∧ n = m
  case neg =>
    go_enter Try.func6, Try.ntmps6
    go_wp2_with fail
    refine (sane_u _).mono ?_
    rintro e w1 ⟨rfl, hb1⟩
    have HD := Lib.hid hd
    clear hd
    go_wp2_with fail
    refine (coefs_bad _ _ _ _ _ _ _ _ _ (hx.below hb1) (hy.below hb1) HD.out).mono ?_
    rintro e w2 ⟨rfl, hb2⟩
    have hB2 := bthen hb1 hb2
    go_wp2_with fail
    refine (through_bad _ _ _ _ _ _ _ _ _ _ (hx.below hB2) (hy.below hB2) HD.out).mono ?_
    rintro e w3 ⟨rfl, hb3⟩
    go_wp2_with fail
    go_ret
    exact ⟨rfl, bthen hB2 hb3⟩
  obtain ⟨hnd, rfl⟩ := hd
  have hlx := Lib.hid hx.1
  have hly := Lib.hid hy.1
  have hlo := Lib.hid ho.1
  go_enter Try.func6, Try.ntmps6
  go_wp2_with fail
  refine (sane_u _).mono ?_
  rintro e w1 ⟨rfl, hb1⟩
  go_wp2_with fail
  refine (coefs_ok _ _ _ _ _ _ _ _ (hx.below hb1) (hy.below hb1) hnd (by omega)).mono ?_
  rintro e w2 ⟨v2, rfl, hov, hb2⟩
  have hB2 := bthen hb1 hb2
  obtain ⟨Al, cl, rfl, hr2⟩ := hov.rl
  clear hov hb2
  go_wp2_with fail
  refine (through_ok _ _ _ _ _ _ _ _ _ (hx.below hB2) (hy.below hB2) hnd (by omega)).mono ?_
  rintro e w3 ⟨rfl, hb3⟩
  have hB3 := bthen hB2 hb3
  have hr3 := hr2.below hb3
  clear hb3 hr2
  go_wp2_with fail
  refine (eval_u _ _ _ _ _ _ hr3).mono ?_
  rintro e w4 ⟨rfl, hb4⟩
  have hB4 := bthen hB3 hb4
  have hr4 := hr3.below hb4
  clear hb4 hr3 hB3 hB2 hb1
  go_wp2_with fail
  clear h2 h3 h4 h5 h6 h7
  go_loopw [13, 14, 15, 16] (fun ss si _ _ wr => ∃ (k : Nat), k ≤ n ∧ si = .int .i64 k ∧ ss = .bool (sameTo other xs ys p n k) ∧ Below w.heap.size w wr ∧ RL gv wr Al n (coefs xs ys)) (fun _ si _ _ _ => n - (intOf si).toNat)
  case atStart => exact ⟨0, by omega, rfl, rfl, hB4, hr4⟩
  case round =>
    obtain ⟨k, hk, rfl, rfl, hB, hr⟩ := hrel
    clear hB4 hr4
    by_cases hlt : k < n
    · obtain ⟨bx, ox, rfl, hbx, hcx⟩ := hx.atg k hlt
      obtain ⟨b_y, oy, rfl, hby, hcy⟩ := hy.atg k hlt
      have hco := coefs_at xs ys hnd k (by rw [hlx.out]; exact hlt)
      generalize hX : g xs k = X at *
      generalize hY : g ys k = Y at *
      have HX := Lib.hid hX; clear hX
      have HY := Lib.hid hY; clear hY
      have HCO := Lib.hid hco; clear hco
      have hcx0 := (hB.cell (p := ⟨bx, ox + k, none⟩) hbx).trans hcx
      go_wp2_with fail
      refine (through_ok _ _ _ _ _ _ _ _ _ (hx.below hB) (hy.below hB) hnd (by omega)).mono ?_
      rintro e w5 ⟨rfl, hb5⟩
      rw [HCO.out]
      have hB5 := bthen hB hb5
      have hr5 := hr.below hb5
      clear hcx0 hr hb5
      have hcx5 : ∀ (dr : Nat) (os : Array Obj), (grow (redrawn w5 dr) os).cell? ⟨bx, ox + k, none⟩ = some (gv X) := cell_regrown ((hB5.cell (p := ⟨bx, ox + k, none⟩) hbx).trans hcx)
      have hcy5 : ∀ (dr : Nat) (os : Array Obj), (grow (redrawn w5 dr) os).cell? ⟨b_y, oy + k, none⟩ = some (gv Y) := cell_regrown ((hB5.cell (p := ⟨b_y, oy + k, none⟩) hby).trans hcy)
      have hev : ∀ W', Below w5.heap.size w5 W' → Calls Try.prog 22 #[.slice Al n cl, .int .u8 (X.toNat : Int)] W' fun e w' => e = .returned (.int .u8 (Y.toNat : Int)) ∧ Below W'.heap.size W' w' := by
        intro W' hW'
        have := eval_u Al n cl (coefs xs ys) X W' (hr5.below hW')
        rw [HCO.out] at this
        exact this
      have hlt2 : (k : Int) < (n : Int) := by omega
      go_wp2_with fail
      refine wp_region_quiet_below mixed (by kernel_rfl) ?_
      repeat (quiet_step ((go_at_call 22; exact Calls.regrown_of (hev _ (below_regrown _ _ _)))))
      refine wpQuiet_nil ?_
      rintro _ ⟨p6, rfl⟩
      have hb6 := below_regrown w5 p6.d p6.os
      generalize grow (redrawn w5 p6.d) p6.os = w6 at *
      clear hcx5 hcy5 hev
      have hB6 := bthen hB5 hb6
      have hr6 := hr5.below hb6
      clear hb6 hr5
      have hcx6 : ∀ (dr : Nat) (os : Array Obj), (grow (redrawn w6 dr) os).cell? ⟨bx, ox + k, none⟩ = some (gv X) := cell_regrown ((hB6.cell (p := ⟨bx, ox + k, none⟩) hbx).trans hcx)
      have hcy6 : ∀ (dr : Nat) (os : Array Obj), (grow (redrawn w6 dr) os).cell? ⟨b_y, oy + k, none⟩ = some (gv Y) := cell_regrown ((hB6.cell (p := ⟨b_y, oy + k, none⟩) hby).trans hcy)
      have hnext : sameTo other xs ys p n (k + 1) = (sameTo other xs ys p n k && (((ev other X).toNat : Int) == (Y.toNat : Int))) := by
        rw [sameTo, HX.out, HY.out, g_beq]
      have HNX := Lib.hid hnext
      clear hnext
      cases hS : sameTo other xs ys p n k with
      | true =>
        rw [hS] at HNX
        clear hS
        go_wp2_with fail
        refine wp_region_quiet_below mixed (by kernel_rfl) ?_
        repeat (quiet_step ((go_at_call 22; exact Calls.regrown_of (eval_u _ _ _ _ _ _ (ho.below (hB6.trans ((below_regrown _ _ _).mono hB6.size)))))))
        refine wpQuiet_nil ?_
        rintro _ ⟨p7, rfl⟩
        have hb7 := below_regrown w6 p7.d p7.os
        generalize grow (redrawn w6 p7.d) p7.os = w7 at *
        clear hcx6 hcy6
        go_wp2_with fail
        refine ⟨⟨k + 1, by omega, by go_num, ?_, bthen hB6 hb7, hr6.below hb7⟩, by simp [intOf]; omega⟩
        rw [HNX.out]
        simp
      | false =>
        rw [hS] at HNX
        clear hS
        clear hcx6 hcy6
        go_wp2_with fail
        go_quiet (fail)
        go_wp2_with fail
        refine ⟨⟨k + 1, by omega, by go_num, ?_, bdrewN hB6 _, hr6.below (bdrewN (Below.refl _ _) _)⟩, by simp [intOf]; omega⟩
        rw [HNX.out]
        simp
    · obtain rfl : k = n := by omega
      cases hS : sameTo other xs ys p k k with
      | false =>
        clear hS
        go_wp2_with fail
        go_ret
        exact ⟨rfl, hB⟩
      | true =>
        have hco := coefs_other other xs ys p k hlx.out hlo.out hnd hS
        have hpn := (sameTo_true _ _ _ _ _ _ hS).1
        clear hS
        rw [hco] at hr
        clear hco
        go_wp2_with fail
        go_loopw [17, 18] (fun si _ wr => ∃ (j : Nat), j ≤ k ∧ si = .int .i64 j ∧ Below w.heap.size w wr ∧ RL gv wr Al k (other ++ List.replicate (k - p) 0#8)) (fun si _ _ => k - (intOf si).toNat)
        case atStart => exact ⟨0, by omega, rfl, hB, hr⟩
        case round =>
          obtain ⟨j, hj, rfl, hB5, hr5⟩ := hrel
          clear hB hr
          by_cases hjk : j < k
          · obtain ⟨b3, o3, rfl, hb3, hc3⟩ := hr5.atg j hjk
            rw [g_pad] at hc3
            have hjk2 : (j : Int) < (k : Int) := by omega
            by_cases hjn : j < p
            · obtain ⟨bl, ol, rfl, hbl, hcl⟩ := ho.atg j hjn
              replace hcl := (hB5.cell (p := ⟨bl, ol + j, none⟩) hbl).trans hcl
              generalize g other j = T at *
              have hjn2 : (j : Int) < (p : Int) := by omega
              go_wp2_with fail
              refine ⟨⟨j + 1, by omega, by go_num, hB5, hr5⟩, by simp [intOf]; omega⟩
            · rw [g_out other j (by rw [hlo.out]; omega)] at hc3
              have hc3'' : wr.cell? ⟨b3, o3 + j, none⟩ = some (.int .u8 0) := hc3
              have hjn2 : decide ((j : Int) < (p : Int)) = false := decide_eq_false (by omega)
              have hjn4 : decide (j < p) = false := decide_eq_false (by omega)
              clear hc3
              go_wp2_with fail
              refine ⟨⟨j + 1, by omega, by go_num, hB5, hr5⟩, by simp [intOf]; omega⟩
          · obtain rfl : j = k := by omega
            go_wp2_with fail
            go_ret
            exact ⟨rfl, hB5⟩
end Go.Proofs.Ytillfbohengpaaa
