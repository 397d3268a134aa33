/-
  WALKS of the reference's product and inverse (testamurref07.Mul, testamurref07.Inv), and of the law FieldMulSpec.
-/
import Derived.Test.YtillfbohengpaaaAx
set_option linter.unusedVariables false
set_option linter.unusedSimpArgs false
namespace Go.Proofs.Ytillfbohengpaaa
open Go.RowKit Gf
/-- The product before it is reduced. -/
def acc (a b : G) : Nat → BitVec 16
  | 0 => 0#16
  | k + 1 => if b.getLsbD k then acc a b k ^^^ (a.setWidth 16 <<< k) else acc a b k
def redTo (P : BitVec 16) : Nat → BitVec 16
  | 0 => P
  | j + 1 => if (redTo P j).getLsbD (14 - j) then redTo P j ^^^ (283#16 <<< (6 - j)) else redTo P j
theorem acc_xor (x y b : G) (k : Nat) : acc (x ^^^ y) b k = acc x b k ^^^ acc y b k := by
  induction k with
  | zero => simp [acc]
  | succ k ih =>
    simp only [acc]
    split
    · rw [ih]
      have : (x ^^^ y).setWidth 16 <<< k = x.setWidth 16 <<< k ^^^ y.setWidth 16 <<< k := by
        rw [← BitVec.shiftLeft_xor_distrib]; congr 1
      rw [this]; ac_rfl
    · exact ih
theorem red_xor (P Q : BitVec 16) (k : Nat) : redTo (P ^^^ Q) k = redTo P k ^^^ redTo Q k := by
  induction k with
  | zero => rfl
  | succ k ih =>
    simp only [redTo, ih, BitVec.getLsbD_xor]
    generalize redTo P k = p
    generalize redTo Q k = q
    generalize 283#16 <<< (6 - k) = z
    cases p.getLsbD (14 - k) <;> cases q.getLsbD (14 - k)
    · simp
    · simp; ac_rfl
    · simp; ac_rfl
    · simp only [Bool.xor_self, Bool.false_eq_true, if_false, if_true]
      have : p ^^^ z ^^^ (q ^^^ z) = p ^^^ q ^^^ (z ^^^ z) := by ac_rfl
      rw [this]; simp
def refm (a b : G) : G := (redTo (acc a b 8) 7).setWidth 8
theorem refm_xor (b x y : G) : refm (x ^^^ y) b = refm x b ^^^ refm y b := by
  unfold refm
  rw [acc_xor, red_xor]
  ext i
  simp
theorem refm_basis : ∀ (i : Fin 8) (b : G), refm (1#8 <<< i.val) b = mul (1#8 <<< i.val) b := by decide +kernel
theorem refm_mul (a b : G) : refm a b = mul a b := bits_ext (fun x => refm x b) (fun x => mul x b) (refm_xor b) (fun x y => xmul x y b) (fun i => refm_basis i b) a
theorem tbit (n k : Nat) : (((n : Int) / 2 ^ k).tmod 2 == 1) = n.testBit k := by
  have h1 : ((n : Int) / 2 ^ k).tmod 2 = ((n / 2 ^ k % 2 : Nat) : Int) := by
    rw [show (n : Int) / 2 ^ k = ((n / 2 ^ k : Nat) : Int) by simp]
    rw [Int.tmod_eq_emod_of_nonneg (Int.natCast_nonneg _)]
    simp
  rw [h1, Nat.testBit_eq_decide_div_mod_eq, Bool.eq_iff_iff, beq_iff_eq, decide_eq_true_eq]
  omega
theorem xor16 (P Q : BitVec 16) : bits .xor .i64 (P.toNat : Int) (Q.toNat : Int) = ((P ^^^ Q).toNat : Int) := by
  have hP := P.isLt
  have hQ := Q.isLt
  have hR := (P ^^^ Q).isLt
  have h1 : ∀ X : BitVec 16, BitVec.ofInt 64 (X.toNat : Int) = X.setWidth 64 := fun X => by
    apply BitVec.eq_of_toNat_eq
    simp
  have h3 : P.setWidth 64 ^^^ Q.setWidth 64 = (P ^^^ Q).setWidth 64 := by
    apply BitVec.eq_of_toNat_eq
    rw [BitVec.toNat_xor, BitVec.toNat_setWidth, BitVec.toNat_setWidth, BitVec.toNat_setWidth, Nat.mod_eq_of_lt (by omega), Nat.mod_eq_of_lt (by omega), Nat.mod_eq_of_lt (by omega), BitVec.toNat_xor]
  have h4 : ((P ^^^ Q).setWidth 64).toNat = (P ^^^ Q).toNat := by rw [BitVec.toNat_setWidth, Nat.mod_eq_of_lt (by omega)]
  unfold bits
  simp only [IntKind.bits]
  rw [IntKind.wrap_i64, h1, h1]
  change ((((P.setWidth 64 ^^^ Q.setWidth 64 : BitVec 64)).toNat : Int) + 9223372036854775808) % 18446744073709551616 - 9223372036854775808 = (((P ^^^ Q : BitVec 16)).toNat : Int)
  rw [h3, h4]
  omega
theorem shl16 (a : G) (k : Nat) (h : k < 8) : wrap64 ((a.toNat : Int) * 2 ^ k) = ((a.setWidth 16 <<< k).toNat : Int) := by
  have hk : k = 0 ∨ k = 1 ∨ k = 2 ∨ k = 3 ∨ k = 4 ∨ k = 5 ∨ k = 6 ∨ k = 7 := by omega
  have ha := a.isLt
  rcases hk with rfl | rfl | rfl | rfl | rfl | rfl | rfl | rfl <;> (simp [Nat.shiftLeft_eq]; unfold wrap64; omega)
theorem shl283 (j : Nat) (h : j < 7) : wrap64 ((283 : Int) * 2 ^ j) = ((283#16 <<< j).toNat : Int) := by
  have hk : j = 0 ∨ j = 1 ∨ j = 2 ∨ j = 3 ∨ j = 4 ∨ j = 5 ∨ j = 6 := by omega
  rcases hk with rfl | rfl | rfl | rfl | rfl | rfl | rfl <;> decide +kernel
set_option maxHeartbeats 1000000 in
theorem rmul_u (a b : G) (w : World) :
    Calls Try.prog 19 #[.int .u8 (a.toNat : Int), .int .u8 (b.toNat : Int)] w fun e w' => e = .returned (.int .u8 ((mul a b).toNat : Int)) ∧ Below w.heap.size w w' := by
  go_enter Try.func19, Try.ntmps19
  go_wp2_with fail
  go_loopw [5, 6] (fun sp si wr => ∃ (k : Nat), k ≤ 8 ∧ si = .int .i64 k ∧ sp = .int .i64 ((acc a b k).toNat : Int) ∧ wr = w) (fun _ si _ => 8 - (intOf si).toNat)
  case atStart => exact ⟨0, by omega, rfl, rfl, rfl⟩
  case round =>
    obtain ⟨k, hk, rfl, rfl, rfl⟩ := hrel
    by_cases hlt : k < 8
    · have hbit := tbit b.toNat k
      have hp : acc a b (k + 1) = if b.getLsbD k then acc a b k ^^^ (a.setWidth 16 <<< k) else acc a b k := rfl
      have HP := Lib.hid hp; clear hp
      cases hbb : b.toNat.testBit k with
      | true =>
        rw [hbb] at hbit
        rw [show b.getLsbD k = true from hbb] at HP
        clear hbb
        go_wp2_with fail
        refine ⟨⟨k + 1, by omega, by go_num, ?_, trivial⟩, by simp [intOf]; omega⟩
        rw [HP.out, if_pos rfl, shl16 a k hlt, xor16]
      | false =>
        rw [hbb] at hbit
        rw [show b.getLsbD k = false from hbb] at HP
        clear hbb
        go_wp2_with fail
        refine ⟨⟨k + 1, by omega, by go_num, ?_, trivial⟩, by simp [intOf]; omega⟩
        rw [HP.out, if_neg (by decide)]
    · obtain rfl : k = 8 := by omega
      generalize hP : acc a b 8 = P
      have HP := Lib.hid hP; clear hP
      go_wp2_with fail
      go_loopw [5, 7] (fun sp si wz => ∃ (j : Nat), j ≤ 7 ∧ si = .int .i64 (14 - (j : Int)) ∧ sp = .int .i64 ((redTo P j).toNat : Int) ∧ wz = wr) (fun _ si _ => (intOf si).toNat)
      case atStart => exact ⟨0, by omega, rfl, rfl, rfl⟩
      case round =>
        obtain ⟨j, hj, rfl, rfl, rfl⟩ := hrel
        by_cases hlt : j < 7
        · have hbit := tbit (redTo P j).toNat (14 - j)
          have hp : redTo P (j + 1) = if (redTo P j).getLsbD (14 - j) then redTo P j ^^^ (283#16 <<< (6 - j)) else redTo P j := rfl
          have HQ := Lib.hid hp; clear hp
          obtain ⟨t, ht⟩ : ∃ t, t = 14 - j := ⟨_, rfl⟩
          have ht2 : (14 : Int) - (j : Int) = (t : Int) := by omega
          rw [← ht] at hbit HQ
          rw [ht2]
          have ht3 : 8 ≤ t := by omega
          have ht4 : t ≤ 14 := by omega
          have HT := Lib.hid ht
          clear ht ht2
          cases hbb : (redTo P j).toNat.testBit t with
          | true =>
            rw [hbb] at hbit
            rw [show (redTo P j).getLsbD t = true from hbb] at HQ
            clear hbb
            go_wp2_with fail
            have hT := HT.out
            refine ⟨⟨j + 1, by omega, congrArg (Value.int .i64) (by omega), ?_, trivial⟩, by simp [intOf]; omega⟩
            rw [HQ.out, if_pos rfl, show t - 8 = 6 - j by omega, shl283 (6 - j) (by omega), xor16]
          | false =>
            rw [hbb] at hbit
            rw [show (redTo P j).getLsbD t = false from hbb] at HQ
            clear hbb
            go_wp2_with fail
            have hT := HT.out
            refine ⟨⟨j + 1, by omega, congrArg (Value.int .i64) (by omega), ?_, trivial⟩, by simp [intOf]; omega⟩
            rw [HQ.out, if_neg (by decide)]
        · obtain rfl : j = 7 := by omega
          go_wp2_with fail
          go_ret
          refine ⟨?_, Below.refl _ _⟩
          rw [← refm_mul, ← HP.out]
          unfold refm
          rw [HP.out, BitVec.toNat_setWidth]
          simp
set_option maxRecDepth 100000 in
set_option maxHeartbeats 1000000 in
theorem rinv_u (a : G) (w : World) :
    Calls Try.prog 17 #[.int .u8 (a.toNat : Int)] w fun e w' => e = .returned (.tuple #[.int .u8 ((invR a).1.toNat : Int), .int .i64 (invR a).2]) ∧ Below w.heap.size w w' := by
  go_enter Try.func17, Try.ntmps17
  go_wp2_with fail
  go_loopw [4] (fun si wr => ∃ (i : Nat), 1 ≤ i ∧ i ≤ 256 ∧ si = .int .i64 i ∧ Hid (∀ j : Nat, 1 ≤ j → j < i → mul a (BitVec.ofNat 8 j) ≠ 1#8) ∧ Below w.heap.size w wr) (fun si _ => 256 - (intOf si).toNat)
  case atStart => exact ⟨1, by omega, by omega, rfl, fun j h1 h2 => by omega, Below.refl _ _⟩
  case round =>
    obtain ⟨i, hi1, hi, rfl, HJ, hB⟩ := hrel
    by_cases hlt : i < 256
    · obtain ⟨X, hX⟩ : ∃ X, X = BitVec.ofNat 8 i := ⟨_, rfl⟩
      have hXi : (i : Int) = (X.toNat : Int) := by rw [hX, BitVec.toNat_ofNat]; omega
      have HX := Lib.hid hX
      have HXI := Lib.hid hXi
      clear hX hXi
      go_wp2_with fail
      have hc := rmul_u a X wr
      rw [← HXI.out] at hc
      refine hc.mono ?_
      clear hc
      rintro e w2 ⟨rfl, hb2⟩
      have hB2 := bthen hB hb2
      clear hb2
      by_cases h1 : mul a X = 1#8
      · have hd : (((mul a X).toNat : Int) == 1) = true := by rw [h1]; rfl
        have HA := Lib.hid h1
        clear h1
        go_wp2_with fail
        go_ret2
        have hne : a ≠ 0#8 := by
          rintro rfl
          have := HA.out
          rw [zero_mul] at this
          exact absurd this (by decide)
        refine ⟨?_, hB2⟩
        unfold invR
        rw [if_neg hne, ← inv_unique a X HA.out, ← HXI.out]
        rfl
      · have hd : (((mul a X).toNat : Int) == 1) = false := by
          rw [beq_eq_false_iff_ne]
          intro e
          exact h1 (BitVec.eq_of_toNat_eq (by have e2 : (BitVec.toNat (mul a X) : Int) = 1 := e; show BitVec.toNat (mul a X) = 1; omega))
        have HA := Lib.hid h1
        clear h1
        go_wp2_with fail
        refine ⟨⟨i + 1, by omega, by omega, by go_num, ?_, hB2⟩, by simp [intOf]; omega⟩
        intro j h1 h2
        by_cases e : j = i
        · subst e; rw [← HX.out]; exact HA.out
        · exact HJ.out j h1 (by omega)
    · obtain rfl : i = 256 := by omega
      have hz : a = 0#8 := by
        refine Classical.byContradiction fun h => ?_
        have h1 := HJ.out (inv a).toNat (by
          have := inv_ne a h
          have h2 : (inv a).toNat ≠ 0 := fun e => this (BitVec.eq_of_toNat_eq (by simpa using e))
          omega) (inv a).isLt
        rw [BitVec.ofNat_toNat, BitVec.setWidth_eq] at h1
        exact h1 (mul_inv a h)
      have HZ := Lib.hid hz
      clear hz
      go_wp2_with fail
      go_ret2
      refine ⟨?_, hB⟩
      unfold invR
      rw [if_pos HZ.out]
      rfl
set_option maxRecDepth 100000 in
set_option maxHeartbeats 1000000 in
theorem mulspec_u (a b : G) (w : World) :
    Calls Try.prog 3 #[.int .u8 (a.toNat : Int), .int .u8 (b.toNat : Int)] w fun e w' => e = .returned (.bool true) ∧ Below w.heap.size w w' := by
  go_enter Try.func3, Try.ntmps3
  go_wp2_with fail
  refine (sane_u _).mono ?_
  rintro e w1 ⟨rfl, hb1⟩
  go_wp2_with fail
  refine (inv_u a _).mono ?_
  rintro e w2 ⟨rfl, hb2⟩
  replace hb1 := bthen hb1 hb2
  clear hb2
  go_wp2_with fail
  refine (rinv_u a _).mono ?_
  rintro e w3 ⟨rfl, hb2⟩
  replace hb1 := bthen hb1 hb2
  clear hb2
  go_wp2_with fail
  refine (mul_u a b _).mono ?_
  rintro e w4 ⟨rfl, hb2⟩
  replace hb1 := bthen hb1 hb2
  clear hb2
  go_wp2_with fail
  refine (rmul_u a b _).mono ?_
  rintro e w5 ⟨rfl, hb2⟩
  replace hb1 := bthen hb1 hb2
  clear hb2
  go_wp2_with fail
  go_ret
  exact ⟨rfl, hb1⟩
end Go.Proofs.Ytillfbohengpaaa
