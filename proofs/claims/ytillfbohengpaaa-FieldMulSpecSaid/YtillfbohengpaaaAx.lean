/-
  WALKS of the laws FieldAxioms and FieldTwo.
-/
import Derived.Test.YtillfbohengpaaaSane
set_option linter.unusedVariables false
set_option linter.unusedSimpArgs false
namespace Go.Proofs.Ytillfbohengpaaa
open Go.RowKit Gf Go.Sort
attribute [local go_sem] bits_gx
theorem g_of (a : Int) (h : (Lit.int .u8 a).wf = true) : ∃ x : G, a = (x.toNat : Int) := by
  have hh : 0 ≤ a ∧ a ≤ 255 := by
    have h2 := h
    simp only [Lit.wf, Bool.and_eq_true, decide_eq_true_eq] at h2
    exact ⟨h2.1, h2.2⟩
  refine ⟨BitVec.ofNat 8 a.toNat, ?_⟩
  rw [BitVec.toNat_ofNat]
  omega
theorem gz_beq (a : G) (h : a ≠ 0#8) : ((a.toNat : Int) == 0) = false := by
  rw [beq_eq_false_iff_ne]
  intro e
  exact h (BitVec.eq_of_toNat_eq (by simpa using e))
set_option maxRecDepth 100000 in
set_option maxHeartbeats 2000000 in
theorem axioms_u (a b c : G) (w : World) :
    Calls Try.prog 4 #[.int .u8 (a.toNat : Int), .int .u8 (b.toNat : Int), .int .u8 (c.toNat : Int)] w fun e w' => e = .returned (.bool true) ∧ Below w.heap.size w w' := by
  go_enter Try.func4, Try.ntmps4
  go_wp2_with fail
  refine (sane_u _).mono ?_
  rintro e w1 ⟨rfl, hb1⟩
  go_wp2_with fail
  refine (inv_u a _).mono ?_
  rintro e w2 ⟨rfl, hb2⟩
  replace hb1 := bthen hb1 hb2
  clear hb2
  go_wp2_with fail
  refine (mul_u a b _).mono ?_
  rintro e w3 ⟨rfl, hb2⟩
  replace hb1 := bthen hb1 hb2
  clear hb2
  go_wp2_with fail
  refine (mul_u b a _).mono ?_
  rintro e w4 ⟨rfl, hb2⟩
  replace hb1 := bthen hb1 hb2
  clear hb2
  rw [mul_comm b a]
  go_wp2_with fail
  refine (mul_u b c _).mono ?_
  rintro e w5 ⟨rfl, hb2⟩
  replace hb1 := bthen hb1 hb2
  clear hb2
  go_wp2_with fail
  refine (mul_u a (mul b c) _).mono ?_
  rintro e w6 ⟨rfl, hb2⟩
  replace hb1 := bthen hb1 hb2
  clear hb2
  go_wp2_with fail
  refine (mul_u a b _).mono ?_
  rintro e w7 ⟨rfl, hb2⟩
  replace hb1 := bthen hb1 hb2
  clear hb2
  go_wp2_with fail
  refine (mul_u (mul a b) c _).mono ?_
  rintro e w8 ⟨rfl, hb2⟩
  replace hb1 := bthen hb1 hb2
  clear hb2
  rw [← mul_assoc a b c]
  go_wp2_with fail
  refine (mul_u a (gx b c) _).mono ?_
  rintro e w9 ⟨rfl, hb2⟩
  replace hb1 := bthen hb1 hb2
  clear hb2
  rw [show mul a (gx b c) = gx (mul a b) (mul a c) from mulx a b c]
  go_wp2_with fail
  refine (mul_u a b _).mono ?_
  rintro e w10 ⟨rfl, hb2⟩
  replace hb1 := bthen hb1 hb2
  clear hb2
  go_wp2_with fail
  refine (mul_u a c _).mono ?_
  rintro e w11 ⟨rfl, hb2⟩
  replace hb1 := bthen hb1 hb2
  clear hb2
  go_wp2_with fail
  refine (mul_u a 1#8 _).mono ?_
  rintro e w12 ⟨rfl, hb2⟩
  replace hb1 := bthen hb1 hb2
  clear hb2
  rw [mul_one a]
  go_wp2_with fail
  refine (mul_u a b _).mono ?_
  rintro e w13 ⟨rfl, hb2⟩
  replace hb1 := bthen hb1 hb2
  clear hb2
  by_cases ha : a = 0#8
  · subst ha
    rw [zero_mul b, show invR 0#8 = (0#8, 1) by decide +kernel]
    go_wp2_with fail
    go_ret
    exact ⟨rfl, hb1⟩
  · have h1 := gz_beq a ha
    have h4 : invR a = (inv a, 0) := by unfold invR; rw [if_neg ha]
    have h5 : invR (inv a) = (a, 0) := by unfold invR; rw [if_neg (inv_ne a ha), inv_inv a ha]
    rw [h4]
    have H5 := Lib.hid h5
    have HA := Lib.hid ha
    clear ha h4 h5
    by_cases hb : b = 0#8
    · subst hb
      rw [mul_zero a]
      go_wp2_with fail
      refine (inv_u (inv a) _).mono ?_
      rintro e w14 ⟨rfl, hb2⟩
      replace hb1 := bthen hb1 hb2
      clear hb2
      rw [H5.out]
      go_wp2_with fail
      refine (mul_u a (inv a) _).mono ?_
      rintro e w15 ⟨rfl, hb2⟩
      replace hb1 := bthen hb1 hb2
      clear hb2
      rw [mul_inv a HA.out]
      go_wp2_with fail
      go_ret
      exact ⟨rfl, hb1⟩
    · have h2 := gz_beq b hb
      have h3 := gz_beq (mul a b) (mul_ne a b HA.out hb)
      clear hb
      go_wp2_with fail
      refine (inv_u (inv a) _).mono ?_
      rintro e w14 ⟨rfl, hb2⟩
      replace hb1 := bthen hb1 hb2
      clear hb2
      rw [H5.out]
      go_wp2_with fail
      refine (mul_u a (inv a) _).mono ?_
      rintro e w15 ⟨rfl, hb2⟩
      replace hb1 := bthen hb1 hb2
      clear hb2
      rw [mul_inv a HA.out]
      go_wp2_with fail
      go_ret
      exact ⟨rfl, hb1⟩
theorem two_loop (a b : G) (k : Nat) (h : k < 8) : gpart a b (k + 1) = if b.getLsbD k then gpart a b k ^^^ pw k a else gpart a b k := rfl
theorem mul2_u (x : G) (w : World) : Calls Try.prog 18 #[.int .u8 (x.toNat : Int), .int .u8 2] w fun e w' => e = .returned (.int .u8 ((tw x).toNat : Int)) ∧ Below w.heap.size w w' := by
  have := mul_u x 2#8 w
  rw [mul_two] at this
  exact this
set_option maxRecDepth 100000 in
set_option maxHeartbeats 2000000 in
theorem two_tail (a b : G) (w : World) :
    Calls Try.prog 5 #[.int .u8 (a.toNat : Int), .int .u8 (b.toNat : Int)] w fun e w' => e = .returned (.bool true) ∧ Below w.heap.size w w' := by
  by_cases hh : 128 ≤ a.toNat
  all_goals
    go_enter Try.func5, Try.ntmps5
    go_wp2_with fail
    refine (sane_u _).mono ?_
    rintro e w1 ⟨rfl, hb1⟩
    have ht := tw_hi a
    have ht2 := tw_lo a
    first
      | (replace ht := ht hh; clear ht2; have hc : (128 : Int) ≤ (a.toNat : Int) := by omega)
      | (replace ht := ht2 hh; clear ht2; have hc : ¬ (128 : Int) ≤ (a.toNat : Int) := by omega)
    go_wp2_with fail
    go_loopw [6, 7, 8] (fun ss sx si wr => ∃ (k : Nat), k ≤ 8 ∧ si = .int .i64 k ∧ ss = .int .u8 ((gpart a b k).toNat : Int) ∧ sx = .int .u8 ((pw k a).toNat : Int) ∧ Below w.heap.size w wr) (fun _ _ si _ => 8 - (intOf si).toNat)
    case atStart => exact ⟨0, by omega, rfl, rfl, rfl, hb1⟩
    case round =>
      obtain ⟨k, hk, rfl, rfl, rfl, hB⟩ := hrel
      by_cases hlt : k < 8
      · have hbit := bits_and_bit b k hlt
        have e8 : (min (k : Int).toNat 8) = k := by simp; omega
        rw [e8] at hbit
        clear e8
        cases hbb : b.getLsbD k with
        | true =>
          rw [hbb] at hbit
          have hp : gpart a b (k + 1) = gx (gpart a b k) (pw k a) := by rw [two_loop a b k hlt, if_pos hbb]; rfl
          have HP := Lib.hid hp; clear hp hbb
          go_wp2_with fail
          refine (mul2_u (pw k a) _).mono ?_
          rintro e w3 ⟨rfl, hb3⟩
          have hB3 := bthen hB hb3
          clear hb3
          go_wp2_with fail
          exact ⟨⟨k + 1, by omega, by go_num, by rw [HP.out], rfl, hB3⟩, by simp [intOf]; omega⟩
        | false =>
          rw [hbb] at hbit
          have hp : gpart a b (k + 1) = gpart a b k := by rw [two_loop a b k hlt, if_neg (by rw [hbb]; decide)]
          have HP := Lib.hid hp; clear hp hbb
          go_wp2_with fail
          refine (mul2_u (pw k a) _).mono ?_
          rintro e w3 ⟨rfl, hb3⟩
          have hB3 := bthen hB hb3
          clear hb3
          go_wp2_with fail
          exact ⟨⟨k + 1, by omega, by go_num, by rw [HP.out], rfl, hB3⟩, by simp [intOf]; omega⟩
      · obtain rfl : k = 8 := by omega
        go_wp2_with fail
        refine (mul2_u a _).mono ?_
        rintro e w3 ⟨rfl, hb3⟩
        replace hB := bthen hB hb3
        clear hb3
        go_wp2_with fail
        refine (mul_u a b _).mono ?_
        rintro e w4 ⟨rfl, hb4⟩
        replace hB := bthen hB hb4
        clear hb4
        rw [show gpart a b 8 = mul a b from rfl]
        go_wp2_with fail
        go_ret
        exact ⟨rfl, hB⟩
end Go.Proofs.Ytillfbohengpaaa
