/-
  WALKS: field.twice, field.Mul, field.Inv.
-/
import Derived.Test.YtillfbohengpaaaBase
set_option linter.unusedVariables false
set_option linter.unusedSimpArgs false
namespace Go.Proofs.Ytillfbohengpaaa
open Go.RowKit Gf
theorem twice_u (x : G) (w : World) : Calls Try.prog 37 #[.int .u8 (x.toNat : Int)] w fun e w' => e = .returned (.int .u8 ((tw x).toNat : Int)) ∧ w = w' := by
  by_cases h : 128 ≤ x.toNat
  · have H := Lib.hid (tw_hi x h)
    have h' : (128 : Int) ≤ (x.toNat : Int) := by omega
    clear h
    have hx := G_le x
    generalize hn : (x.toNat : Int) = n at *
    clear hn
    go_enter Try.func37, Try.ntmps37
    go_wp2
    go_ret
    exact ⟨by rw [H.out]; rfl, rfl⟩
  · have h2 : (x.toNat : Int) * 2 = ((tw x).toNat : Int) := by have := tw_lo x h; have := G_le x; omega
    have H := Lib.hid h2
    clear h2
    have h' : (x.toNat : Int) < 128 := by omega
    clear h
    have hx' := G_ge x
    generalize hn : (x.toNat : Int) = n at *
    clear hn
    go_enter Try.func37, Try.ntmps37
    go_wp2
    go_ret
    exact ⟨by rw [H.out]; rfl, rfl⟩
def tab (k : Nat) (a : G) : Array Value := ((List.range 8).map fun j => Value.int .u8 (if j < k then ((pw j a).toNat : Int) else 0)).toArray
theorem tab_get (k : Nat) (a : G) (h : k < 8) : ∃ v, (tab k a)[k]? = some v := by
  simp [tab, h]
theorem tab_set (k : Nat) (a : G) : (tab k a).setIfInBounds k (.int .u8 ((pw k a).toNat : Int)) = tab (k+1) a := by
  apply Array.ext'
  simp only [tab, Array.toList_setIfInBounds]
  apply List.ext_getElem
  · simp
  · intro i h1 h2
    simp [List.getElem_set]
    by_cases e : k = i
    · subst e; simp
    · simp [e]
      have : i < k ↔ i < k + 1 := by omega
      simp [this]
theorem tab_index0 (a : G) (w : World) : (Instr.index 56 (.agg (tab 8 a)) (.int .i64 0)).run Try.prog w = .ok (.int .u8 ((pw 0 a).toNat : Int)) w := by kernel_rfl
theorem tab_index1 (a : G) (w : World) : (Instr.index 56 (.agg (tab 8 a)) (.int .i64 1)).run Try.prog w = .ok (.int .u8 ((pw 1 a).toNat : Int)) w := by kernel_rfl
theorem tab_index2 (a : G) (w : World) : (Instr.index 56 (.agg (tab 8 a)) (.int .i64 2)).run Try.prog w = .ok (.int .u8 ((pw 2 a).toNat : Int)) w := by kernel_rfl
theorem tab_index3 (a : G) (w : World) : (Instr.index 56 (.agg (tab 8 a)) (.int .i64 3)).run Try.prog w = .ok (.int .u8 ((pw 3 a).toNat : Int)) w := by kernel_rfl
theorem tab_index4 (a : G) (w : World) : (Instr.index 56 (.agg (tab 8 a)) (.int .i64 4)).run Try.prog w = .ok (.int .u8 ((pw 4 a).toNat : Int)) w := by kernel_rfl
theorem tab_index5 (a : G) (w : World) : (Instr.index 56 (.agg (tab 8 a)) (.int .i64 5)).run Try.prog w = .ok (.int .u8 ((pw 5 a).toNat : Int)) w := by kernel_rfl
theorem tab_index6 (a : G) (w : World) : (Instr.index 56 (.agg (tab 8 a)) (.int .i64 6)).run Try.prog w = .ok (.int .u8 ((pw 6 a).toNat : Int)) w := by kernel_rfl
theorem tab_index7 (a : G) (w : World) : (Instr.index 56 (.agg (tab 8 a)) (.int .i64 7)).run Try.prog w = .ok (.int .u8 ((pw 7 a).toNat : Int)) w := by kernel_rfl
theorem tab_index (a : G) (k : Nat) (h : k < 8) (w : World) : (Instr.index 56 (.agg (tab 8 a)) (.int .i64 k)).run Try.prog w = .ok (.int .u8 ((pw k a).toNat : Int)) w := by
  have hk : k = 0 ∨ k = 1 ∨ k = 2 ∨ k = 3 ∨ k = 4 ∨ k = 5 ∨ k = 6 ∨ k = 7 := by omega
  rcases hk with rfl | rfl | rfl | rfl | rfl | rfl | rfl | rfl
  · exact tab_index0 a w
  · exact tab_index1 a w
  · exact tab_index2 a w
  · exact tab_index3 a w
  · exact tab_index4 a w
  · exact tab_index5 a w
  · exact tab_index6 a w
  · exact tab_index7 a w
theorem tab_lit (a : G) : tab 8 a = #[.int .u8 ((pw 0 a).toNat : Int), .int .u8 ((pw 1 a).toNat : Int), .int .u8 ((pw 2 a).toNat : Int), .int .u8 ((pw 3 a).toNat : Int), .int .u8 ((pw 4 a).toNat : Int), .int .u8 ((pw 5 a).toNat : Int), .int .u8 ((pw 6 a).toNat : Int), .int .u8 ((pw 7 a).toNat : Int)] := rfl
set_option maxHeartbeats 400000 in
theorem mul_u (a b : G) (w : World) :
    Calls Try.prog 18 #[.int .u8 (a.toNat : Int), .int .u8 (b.toNat : Int)] w fun e w' => e = .returned (.int .u8 ((mul a b).toNat : Int)) ∧ Below w.heap.size w w' := by
  go_enter Try.func18, Try.ntmps18
  go_wp2_with fail
  go_loopw [0, 6, 9, 16] (fun sa _ si _ wr => ∃ (k : Nat), k ≤ 8 ∧ si = .int .i64 k ∧ sa = .int .u8 ((pw k a).toNat : Int) ∧ wr = w.alloc (.cells (tab k a) 56)) (fun _ _ si _ _ => 8 - (intOf si).toNat)
  case atStart => exact ⟨0, by omega, rfl, rfl, rfl⟩
  case round =>
    obtain ⟨k, hk, rfl, rfl, rfl⟩ := hrel
    by_cases hlt : k < 8
    · obtain ⟨v, hv⟩ := tab_get k a hlt
      go_wp2_with (go_at_call 37; refine (twice_u _ _).mono ?_; rintro e w' ⟨rfl, rfl⟩)
      go_roundw
      case rel => exact ⟨k+1, by omega, by go_num, rfl, by rw [← tab_set k a]⟩
      case measure => simp [intOf]; omega
    · obtain rfl : k = 8 := by omega
      rw [tab_lit]
      go_wp2_with fail
      rw [← tab_lit]
      go_loop [4, 7, 8, 19] (fun sc _ _ si => ∃ (k : Nat), k ≤ 8 ∧ si = .int .i64 k ∧ sc = .int .u8 ((gpart a b k).toNat : Int)) (fun _ _ _ si => 8 - (intOf si).toNat)
      case atStart => exact ⟨0, by omega, rfl, rfl⟩
      case round =>
        obtain ⟨k, hk, rfl, rfl⟩ := hrel
        by_cases hlt : k < 8
        · have hix := tab_index a k hlt
          have hbit := bits_and_bit b k hlt
          have e8 : (min (k : Int).toNat 8) = k := by simp; omega
          rw [e8] at hbit
          have hp : gpart a b (k + 1) = if b.getLsbD k then gpart a b k ^^^ pw k a else gpart a b k := rfl
          have HP := Lib.hid hp; clear hp e8
          go_wp2_with fail
          all_goals
            go_round
            case rel => exact ⟨k + 1, by omega, by go_num, by rw [HP.out]; first | (rw [if_pos (show b.getLsbD k = true by assumption), bits_xor_g]) | (rw [if_neg (by rw [show b.getLsbD k = false by assumption]; decide)])⟩
            case measure => simp [intOf]; omega
        · obtain rfl : k = 8 := by omega
          go_wp2_with fail
          go_ret
          exact ⟨rfl, below_alloc1 _ _⟩
/-- What Inv returns: the inverse, the error. -/
def invR (a : G) : G × Int := if a = 0#8 then (0#8, 1) else (inv a, 0)
theorem inv_u (a : G) (w : World) :
    Calls Try.prog 16 #[.int .u8 (a.toNat : Int)] w fun e w' => e = .returned (.tuple #[.int .u8 ((invR a).1.toNat : Int), .int .i64 (invR a).2]) ∧ Below w.heap.size w w' := by
  by_cases h : a = 0#8
  · subst h
    go_enter Try.func16, Try.ntmps16
    go_wp2_with fail
    go_ret2
    exact ⟨rfl, Below.refl _ _⟩
  · have hr : invR a = (inv a, 0) := by simp [invR, h]
    have HR := Lib.hid hr; clear hr
    have hz : ((a.toNat : Int) == 0) = false := by
      rw [beq_eq_false_iff_ne]
      intro e
      exact h (BitVec.eq_of_toNat_eq (by simpa using e))
    clear h
    go_enter Try.func16, Try.ntmps16
    go_wp2_with fail
    clear hz
    go_loopw [0, 2, 6] (fun sa sb si wr => ∃ (k : Nat), k ≤ 7 ∧ si = .int .i64 k ∧ sa = .int .u8 ((invTo a k).1.toNat : Int) ∧ sb = .int .u8 ((invTo a k).2.toNat : Int) ∧ Below w.heap.size w wr) (fun _ _ si _ => 7 - (intOf si).toNat)
    case atStart => exact ⟨0, by omega, rfl, rfl, rfl, Below.refl _ _⟩
    case round =>
      obtain ⟨k, hk, rfl, rfl, rfl, hB⟩ := hrel
      by_cases hlt : k < 7
      · go_wp2_with fail
        refine (mul_u _ _ _).mono ?_
        rintro e w1 ⟨rfl, hb1⟩
        go_wp2_with fail
        refine (mul_u _ _ _).mono ?_
        rintro e w2 ⟨rfl, hb2⟩
        go_wp2_with fail
        go_roundw
        case rel => exact ⟨k + 1, by omega, by go_num, rfl, rfl, bthen (bthen hB hb1) hb2⟩
        case measure => simp [intOf]; omega
      · obtain rfl : k = 7 := by omega
        go_wp2_with fail
        go_ret2
        exact ⟨by rw [HR.out]; rfl, hB⟩
end Go.Proofs.Ytillfbohengpaaa
