/-
  Texts of this session, merged in their order: PA0, PAtestamurref08Few, Gf, Int, Base, Reg, Own, Map, Points, Rf, Mul, Eval, Coef, Sane, Sh, Alike, Check, Ralike, PAsharespoints, Kd, Cols, SplitA.
-/
import Derived.Test.YtillfbohengpaaaProg
import Derived.Below
import Derived.Deep.Draws
import Derived.Deep.AppendLies
import Derived.Maps.AppendAt
import Derived.OwnWalk
import Derived.Laws.BytesArg
import Derived.Laws.MakeOwn
import Derived.Laws.OwnMore
import Derived.Deep.OwnRows
import Derived.Tactics
import Derived.Lib.ConvBytes
import Derived.Laws.Slices
import Derived.WalkKit
import Derived.KernelRfl
import Derived.RowKit3
import Derived.Deep.LoopGhost
import Derived.Deep.QuietTactic
import Derived.BigQuiet
import Derived.WideLaws
import Derived.Deep.DeepCutAuto
import Derived.Deep.CutBlock
import Derived.Deep.RegionHeld3
import Derived.Laws.Rows
import Derived.Lib.AppendStr
import Derived.ArgAppend
import Derived.Laws.IdiomCopy
import Derived.OrdersHeld
import Derived.Laws.BitsLemmas
import Derived.RowKit
import Derived.Test.YtillfbohengpaaaWWords
import Derived.Test.YtillfbohengpaaaWLast
import Derived.Test.YtillfbohengpaaaWTab
import Derived.Test.YtillfbohengpaaaWFour
import Derived.Test.YtillfbohengpaaaWQPut
import Derived.Test.YtillfbohengpaaaWApart
import Derived.Test.YtillfbohengpaaaWArr
import Derived.Test.YtillfbohengpaaaWZeros
import Derived.Test.YtillfbohengpaaaWFoot
import Derived.Test.YtillfbohengpaaaWKept
import Derived.Test.YtillfbohengpaaaWShare
import Derived.Test.YtillfbohengpaaaWN
import Derived.Test.YtillfbohengpaaaWFootNe
import Derived.Test.YtillfbohengpaaaWAt
import Derived.Test.YtillfbohengpaaaWEqStruct
import Derived.Test.YtillfbohengpaaaWRepsOne
import Derived.Test.YtillfbohengpaaaWInv
import Derived.Test.YtillfbohengpaaaWInvWords
import Derived.Test.YtillfbohengpaaaWGuard
import Derived.Test.YtillfbohengpaaaWNEv
import Derived.Test.YtillfbohengpaaaWMore
import Derived.Lib.Hide
import Derived.WalkLawsBesides
import Derived.WalkSpells
import Derived.StillTail
import Derived.Lib.QuietBelow
import Derived.RangeFuncNested
import Derived.RangeFuncBound
import Derived.RangeFuncCalls
import Derived.RangeFuncLeaves
import Derived.Shelf.Abstract
import Derived.OwnWalkIn
import Derived.TacticsInMore
import Derived.LoopNIn
import Derived.LoopIn
import Derived.Shelf.RegionOpen
/- Laid by a program of this session out of the translation (functions with their contracts). -/
namespace Go.Proofs.Ytillfbohengpaaa.PA
open Go.RowKit Go.Proofs.YtillfbohengpaaaW.PrintWords Go.Proofs.YtillfbohengpaaaW.PrintLast Go.Proofs.YtillfbohengpaaaW.PrintMore
attribute [local go_sem] max2_int min2_int max_two min_two max_three min_three max_four min_four   -- for this text's walks alone
set_option linter.unusedVariables false
set_option linter.unusedSimpArgs false



def errW : Option Int → Value
  | none => .nilIface
  | some c => .iface 0 (.int .i64 c)
theorem errW_none : errW none = .nilIface := rfl
theorem errW_some (c : Int) : errW (some c) = .iface 0 (.int .i64 c) := rfl

theorem info5 : (Try.prog.info? 5).map (fun i => (i.zero, i.size, i.bytes)) = some (some (.int .u8 0), 1, 1) := by kernel_rfl
theorem info52 : (Try.prog.info? 52).map (fun i => (i.zero, i.size, i.bytes)) = some (some (.agg #[(.int .i64 0), (.int .i64 0), (.int .i64 0), (.int .i64 0), (.slice none 0 0)]), 5, 56) := by kernel_rfl
-- the values' own types
def rd_L2 (xs : List (List Int)) (i : Int) : (List Int) := xs.getD i.toNat ([] : List Int)
theorem at_L2 {w : World} {A : Option Addr} {n : Nat} {xs : List (List Int)} (h : Kd.C (Kd.slice 5 (Kd.int .u8)) w A n xs) (i : Int) (h0 : 0 ≤ i) (h1 : i < n) : ∃ ad A0 c0, A = some ad ∧ w.cell? (ad.add i.toNat) = some (.slice A0 (rd_L2 xs i).length c0) ∧ (rd_L2 xs i).length ≤ c0 ∧ (Kd.int .u8).C w A0 (rd_L2 xs i).length (rd_L2 xs i) := by
  obtain ⟨ad, c, e, _, hK, hc0⟩ := Kd.C_get h ([] : List Int) i h0 h1
  have hc : ∀ j u, c[j]? = some u → w.cell? (ad.add (i.toNat * 1 + j)) = some u := hc0
  obtain ⟨A0, c0, rfl, l0, g0⟩ := hK
  exact ⟨ad, A0, c0, e, by have hq := hc 0 _ rfl; rwa [Nat.mul_one, Nat.add_zero] at hq, l0, g0⟩

/-! #### struct type 52 -/
structure S52 where
  f0 : Int
  f1 : Int
  f2 : Int
  f3 : Int
  f4 : (List Int)
def z52 : S52 := ⟨(0 : Int), (0 : Int), (0 : Int), (0 : Int), ([] : List Int)⟩
def k52 : Kd S52 := Kd.iso (Kd.pair (Kd.int .i64) (Kd.pair (Kd.int .i64) (Kd.pair (Kd.int .i64) (Kd.pair (Kd.int .i64) (Kd.slice 5 (Kd.int .u8)))))) (fun x : S52 => (x.f0, x.f1, x.f2, x.f3, x.f4))
theorem k52_open {w : World} {x : S52} {cs : List Value} (h : k52.K w x cs) : ∃ A4 c4, cs = [.int .i64 x.f0, .int .i64 x.f1, .int .i64 x.f2, .int .i64 x.f3, .slice A4 x.f4.length c4] ∧ x.f4.length ≤ c4 ∧ (Kd.int .u8).C w A4 x.f4.length x.f4 := by
  obtain ⟨_, _, rfl, rfl, ⟨_, _, rfl, rfl, ⟨_, _, rfl, rfl, ⟨_, _, rfl, rfl, ⟨A4, c4, rfl, l4, g4⟩⟩⟩⟩⟩ := h
  exact ⟨A4, c4, rfl, l4, g4⟩
theorem k52_openM {w : World} {base : Nat} {ok : Nat → Prop} {x : S52} {cs : List Value} (h : k52.M w base ok x cs) : ∃ v4, cs = [.int .i64 x.f0, .int .i64 x.f1, .int .i64 x.f2, .int .i64 x.f3, v4] ∧ (Kd.int .u8).R 5 w base ok v4 x.f4 := by
  obtain ⟨_, _, rfl, rfl, ⟨_, _, rfl, rfl, ⟨_, _, rfl, rfl, ⟨_, _, rfl, rfl, ⟨v4, rfl, g4⟩⟩⟩⟩⟩ := h
  exact ⟨v4, rfl, g4⟩
theorem k52_mk (w : World) (x : S52) {A4 : Option Addr} {c4 : Nat} (l4 : x.f4.length ≤ c4) (g4 : (Kd.int .u8).C w A4 x.f4.length x.f4) : k52.K w x [.int .i64 x.f0, .int .i64 x.f1, .int .i64 x.f2, .int .i64 x.f3, .slice A4 x.f4.length c4] := ⟨[.int .i64 x.f0], [.int .i64 x.f1, .int .i64 x.f2, .int .i64 x.f3, .slice A4 x.f4.length c4], rfl, rfl, ⟨[.int .i64 x.f1], [.int .i64 x.f2, .int .i64 x.f3, .slice A4 x.f4.length c4], rfl, rfl, ⟨[.int .i64 x.f2], [.int .i64 x.f3, .slice A4 x.f4.length c4], rfl, rfl, ⟨[.int .i64 x.f3], [.slice A4 x.f4.length c4], rfl, rfl, ⟨A4, c4, rfl, l4, g4⟩⟩⟩⟩⟩
theorem k52_mkM (w : World) (base : Nat) (ok : Nat → Prop) (x : S52) {v4 : Value} (g4 : (Kd.int .u8).R 5 w base ok v4 x.f4) : k52.M w base ok x [.int .i64 x.f0, .int .i64 x.f1, .int .i64 x.f2, .int .i64 x.f3, v4] := ⟨[.int .i64 x.f0], [.int .i64 x.f1, .int .i64 x.f2, .int .i64 x.f3, v4], rfl, rfl, ⟨[.int .i64 x.f1], [.int .i64 x.f2, .int .i64 x.f3, v4], rfl, rfl, ⟨[.int .i64 x.f2], [.int .i64 x.f3, v4], rfl, rfl, ⟨[.int .i64 x.f3], [v4], rfl, rfl, ⟨v4, rfl, g4⟩⟩⟩⟩⟩
theorem k52_openF {W : World} {ok : Nat → Prop} {x : S52} {cs : List Value} (h : Kd.FK k52 W ok x cs) : ∃ A4 c4, cs = [.int .i64 x.f0, .int .i64 x.f1, .int .i64 x.f2, .int .i64 x.f3, .slice A4 x.f4.length c4] ∧ x.f4.length ≤ c4 ∧ Kd.F (Kd.int .u8) W ok A4 x.f4.length x.f4 := by
  obtain ⟨A4, c4, rfl, l4, _⟩ := k52_open (Kd.FK_now h)
  exact ⟨A4, c4, rfl, l4, (fun W' hW => by obtain ⟨A4_, c4_, he, l4_, g4_⟩ := k52_open (h W' hW); injection (Option.some.inj (show some (Value.slice A4 x.f4.length c4) = some (Value.slice A4_ x.f4.length c4_) from congrArg (fun l => l[4]?) he)) with ha_ _ _; rw [ha_]; exact g4_)⟩
theorem k52_mkF (W : World) (ok : Nat → Prop) (x : S52) {A4 : Option Addr} {c4 : Nat} (l4 : x.f4.length ≤ c4) (g4 : Kd.F (Kd.int .u8) W ok A4 x.f4.length x.f4) : Kd.FK k52 W ok x [.int .i64 x.f0, .int .i64 x.f1, .int .i64 x.f2, .int .i64 x.f3, .slice A4 x.f4.length c4] := fun W2 hW => k52_mk W2 x l4 (g4 W2 hW)
def rd_T52 (xs : List S52) (i : Int) : S52 := xs.getD i.toNat z52
theorem at_T52 {w : World} {A : Option Addr} {n : Nat} {xs : List S52} (h : Kd.C k52 w A n xs) (i : Int) (h0 : 0 ≤ i) (h1 : i < n) : ∃ ad A4 c4, A = some ad ∧ w.cell? (ad.add (i.toNat * 5)) = some (.int .i64 (rd_T52 xs i).f0) ∧ w.cell? ⟨(ad.add (i.toNat * 5)).block, (ad.add (i.toNat * 5)).off + 1, none⟩ = some (.int .i64 (rd_T52 xs i).f1) ∧ w.cell? ⟨(ad.add (i.toNat * 5)).block, (ad.add (i.toNat * 5)).off + 2, none⟩ = some (.int .i64 (rd_T52 xs i).f2) ∧ w.cell? ⟨(ad.add (i.toNat * 5)).block, (ad.add (i.toNat * 5)).off + 3, none⟩ = some (.int .i64 (rd_T52 xs i).f3) ∧ w.cell? ⟨(ad.add (i.toNat * 5)).block, (ad.add (i.toNat * 5)).off + 4, none⟩ = some (.slice A4 (rd_T52 xs i).f4.length c4) ∧ (rd_T52 xs i).f4.length ≤ c4 ∧ (Kd.int .u8).C w A4 (rd_T52 xs i).f4.length (rd_T52 xs i).f4 := by
  obtain ⟨ad, c, e, _, hK, hc0⟩ := Kd.C_get h z52 i h0 h1
  have hc : ∀ j u, c[j]? = some u → w.cell? (ad.add (i.toNat * 5 + j)) = some u := hc0
  obtain ⟨A4, c4, rfl, l4, g4⟩ := k52_open hK
  exact ⟨ad, A4, c4, e, hc 0 _ rfl, by rw [← add_field _ _ 1 (by omega)]; exact hc 1 _ rfl, by rw [← add_field _ _ 2 (by omega)]; exact hc 2 _ rfl, by rw [← add_field _ _ 3 (by omega)]; exact hc 3 _ rfl, by rw [← add_field _ _ 4 (by omega)]; exact hc 4 _ rfl, l4, g4⟩

def rd_L4 (xs : List (List S52)) (i : Int) : (List S52) := xs.getD i.toNat ([] : List S52)
theorem at_L4 {w : World} {A : Option Addr} {n : Nat} {xs : List (List S52)} (h : Kd.C (Kd.slice 52 k52) w A n xs) (i : Int) (h0 : 0 ≤ i) (h1 : i < n) : ∃ ad A0 c0, A = some ad ∧ w.cell? (ad.add i.toNat) = some (.slice A0 (rd_L4 xs i).length c0) ∧ (rd_L4 xs i).length ≤ c0 ∧ k52.C w A0 (rd_L4 xs i).length (rd_L4 xs i) := by
  obtain ⟨ad, c, e, _, hK, hc0⟩ := Kd.C_get h ([] : List S52) i h0 h1
  have hc : ∀ j u, c[j]? = some u → w.cell? (ad.add (i.toNat * 1 + j)) = some u := hc0
  obtain ⟨A0, c0, rfl, l0, g0⟩ := hK
  exact ⟨ad, A0, c0, e, by have hq := hc 0 _ rfl; rwa [Nat.mul_one, Nat.add_zero] at hq, l0, g0⟩

end Go.Proofs.Ytillfbohengpaaa.PA

/- Laid by a program of this session out of the translation (functions with their contracts). -/
namespace Go.Proofs.Ytillfbohengpaaa.PA
open Go.RowKit Go.Proofs.YtillfbohengpaaaW.PrintWords Go.Proofs.YtillfbohengpaaaW.PrintLast Go.Proofs.YtillfbohengpaaaW.PrintMore
attribute [local go_sem] max2_int min2_int max_two min_two max_three min_three max_four min_four   -- for this text's walks alone
set_option linter.unusedVariables false
set_option linter.unusedSimpArgs false

/-! ### testamurref08_Few: function 24 -/
def testamurref08_Few.l0 : Nat → List (S52) → Int → Option (Bool)
  | 0, _, _ => none
  | k + 1, x0, x3 => if x3 < (x0.length : Int) then (if 0 ≤ x3 then (if (((rd_T52 x0 x3).f4).length : Int) > 70 then (some false) else (testamurref08_Few.l0 k x0 (wrap64 (x3 + 1)))) else (none)) else (some (decide ((x0.length : Int) ≤ 10)))
def testamurref08_Few.f (k : Nat) (l0 : List (S52)) : Option (Bool) := testamurref08_Few.l0 k l0 0
theorem testamurref08_Few.mono_l : ∀ k, (∀ y0 y1, LeO (testamurref08_Few.l0 k y0 y1) (testamurref08_Few.l0 (k + 1) y0 y1))
  | 0 => fun _ _ r h => by simp [testamurref08_Few.l0] at h
  | k + 1 => by
    have ih0 := testamurref08_Few.mono_l k
    · intro y0 y1
      unfold testamurref08_Few.l0
      repeat' first
      | (with_reducible exact ih0 _ _)
      | (with_reducible exact LeO.refl _)
      | (with_reducible exact LeO.none _)
      | (with_reducible refine LeO.ite ?_ ?_)
      | (with_reducible refine LeO.bind ?_ (fun _ => ?_))
      | exact ih0 _ _
      | exact LeO.none _
      | refine LeO.ite ?_ ?_
      | refine LeO.bind ?_ (fun _ => ?_)
theorem testamurref08_Few.mono : ∀ a0 k, LeO (testamurref08_Few.f k a0) (testamurref08_Few.f (k + 1) a0) := by
  intro a0 k
  have ih0 := testamurref08_Few.mono_l k
  unfold testamurref08_Few.f
  repeat' first
      | (with_reducible exact ih0 _ _)
      | (with_reducible exact LeO.refl _)
      | (with_reducible exact LeO.none _)
      | (with_reducible refine LeO.ite ?_ ?_)
      | (with_reducible refine LeO.bind ?_ (fun _ => ?_))
      | exact ih0 _ _
      | exact LeO.none _
      | refine LeO.ite ?_ ?_
      | refine LeO.bind ?_ (fun _ => ?_)
set_option maxHeartbeats 8000000 in
set_option maxRecDepth 100000 in
theorem testamurref08_Few.calls (k : Nat) (A0 : Option Addr) (c0 : Nat) (l0 : List (S52)) (r : Bool) (w : World) (hr0 : Kd.C k52 w A0 l0.length l0) (hc0 : l0.length ≤ c0) (h : testamurref08_Few.f k l0 = some r) :
    Calls Try.prog 24 #[.slice A0 l0.length c0] w fun e w' => e = .returned (.bool r) ∧ Drawn0 w w' := by
  have HR0 := Aside0.mk hr0
  have HC0 := Aside0.mk hc0
  clear hr0 hc0
  have H : (testamurref08_Few.l0 k l0 0) = some r := h
  clear h
  have H' := Aside0.mk H
  clear H
  go_enter Try.func24, Try.ntmps24
  go_wp2
  go_loopg [3] k (fun kq v3 w' => ∃ (x3_1 : Int), v3 = .int .i64 x3_1 ∧ Aside0 (testamurref08_Few.l0 kq l0 x3_1 = some r) ∧ Aside0 (kq ≤ k) ∧ Drawn0 w w')
  case atStart => exact ⟨(0), (by first | rfl | (simp; done) | (simp [*]; done)), H', ⟨Nat.le_refl _⟩, by repeat (first | exact Drawn0.refl _ | apply Drawn0.step)⟩
  case round =>
    clear H'
    obtain ⟨x3_1, rfl, HA, HK1, ⟨m1, rfl⟩⟩ := hrel
    cases gk with
    | zero => exact absurd HA.out (by simp [testamurref08_Few.l0])
    | succ k1 =>
      have H := HA.out
      clear HA
      simp only [testamurref08_Few.l0] at H
      by_cases c2 : x3_1 < (l0.length : Int)
      · rw [if_pos c2] at H
        have c2b0 : decide (x3_1 < (l0.length : Int)) = true := decide_eq_true c2
        clear c2
        by_cases c3 : 0 ≤ x3_1
        · rw [if_pos c3] at H
          have c3b0 : decide (0 ≤ x3_1) = true := decide_eq_true c3
          clear c3
          by_cases c4 : (((rd_T52 l0 x3_1).f4).length : Int) > 70
          · rw [if_pos c4] at H
            have c4b0 : decide (70 < (((rd_T52 l0 x3_1).f4).length : Int)) = true := decide_eq_true c4
            have c4b1 : decide (70 < ((rd_T52 l0 x3_1).f4).length) = true := decide_eq_true (by omega)
            clear c4
            obtain rfl := Option.some.inj H
            have p101 : 0 ≤ (x3_1 : Int) := of_decide_eq_true (by first | (with_reducible assumption) | assumption)
            have q101 : x3_1 < (l0.length : Int) := of_decide_eq_true (by first | (with_reducible assumption) | assumption)
            obtain ⟨ad101, A101_4, c101_4, e101, hx101_0, hx101_1, hx101_2, hx101_3, hx101_4, hl101_4, hi101_4⟩ := at_T52 HR0.out x3_1 p101 q101
            cases e101
            have HR101_4 := Aside0.mk hi101_4
            have HC101_4 := Aside0.mk hl101_4
            clear hi101_4 hl101_4
            replace p101 := eq_true p101
            replace q101 := eq_true q101
            go_wp2
            go_ret
            exact ⟨by first | rfl | (simp; done) | (simp [*]; done), by repeat (first | exact Drawn0.refl _ | apply Drawn0.step)⟩
          · rw [if_neg c4] at H
            have c4b0 : decide (70 < (((rd_T52 l0 x3_1).f4).length : Int)) = false := decide_eq_false c4
            have c4b1 : decide (70 < ((rd_T52 l0 x3_1).f4).length) = false := decide_eq_false (by omega)
            clear c4
            have H' := Aside0.mk H
            clear H
            have p101 : 0 ≤ (x3_1 : Int) := of_decide_eq_true (by first | (with_reducible assumption) | assumption)
            have q101 : x3_1 < (l0.length : Int) := of_decide_eq_true (by first | (with_reducible assumption) | assumption)
            obtain ⟨ad101, A101_4, c101_4, e101, hx101_0, hx101_1, hx101_2, hx101_3, hx101_4, hl101_4, hi101_4⟩ := at_T52 HR0.out x3_1 p101 q101
            cases e101
            have HR101_4 := Aside0.mk hi101_4
            have HC101_4 := Aside0.mk hl101_4
            clear hi101_4 hl101_4
            replace p101 := eq_true p101
            replace q101 := eq_true q101
            go_wp2
            go_roundg k1
            case measure => have := HK1.out; omega
            case rel => exact ⟨(wrap64 (x3_1 + 1)), (by first | rfl | (simp; done) | (simp [*]; done)), H', ⟨by have := HK1.out; omega⟩, by repeat (first | exact Drawn0.refl _ | apply Drawn0.step)⟩
        · rw [if_neg c3] at H
          exact absurd H (by simp)
      · rw [if_neg c2] at H
        have c2b0 : decide (x3_1 < (l0.length : Int)) = false := decide_eq_false c2
        clear c2
        obtain rfl := Option.some.inj H
        go_wp2
        go_ret
        exact ⟨by first | rfl | (simp; done) | (simp [*]; done), by repeat (first | exact Drawn0.refl _ | apply Drawn0.step)⟩

end Go.Proofs.Ytillfbohengpaaa.PA

/-
  PLAIN: the field with 256 elements, its polynomials (lists of coefficients, the lowest first), and interpolation. No Go and no program in it.
-/
set_option linter.unusedVariables false
set_option linter.unusedSimpArgs false
namespace Go.Proofs.Ytillfbohengpaaa.Gf
abbrev G := BitVec 8
/-- The product with 2. -/
def tw (x : G) : G := if x.msb then (x <<< 1) ^^^ 27#8 else x <<< 1
theorem tw_xor (x y : G) : tw (x ^^^ y) = tw x ^^^ tw y := by
  unfold tw
  rw [BitVec.msb_xor, BitVec.shiftLeft_xor_distrib]
  generalize x <<< 1 = p
  generalize y <<< 1 = q
  have e : p ^^^ 27#8 ^^^ (q ^^^ 27#8) = p ^^^ q := by
    have : p ^^^ 27#8 ^^^ (q ^^^ 27#8) = p ^^^ q ^^^ (27#8 ^^^ 27#8) := by ac_rfl
    rw [this]; simp
  have f : p ^^^ 27#8 ^^^ q = p ^^^ q ^^^ 27#8 := by ac_rfl
  cases x.msb <;> cases y.msb
  · simp
  · simp only [Bool.false_bne, if_true, Bool.false_eq_true, if_false]; ac_rfl
  · simp only [Bool.true_bne, Bool.not_false, if_true, Bool.false_eq_true, if_false]; rw [f]
  · simp only [bne_self_eq_false, if_true, Bool.false_eq_true, if_false]; rw [e]
def pw : Nat → G → G
  | 0, a => a
  | n + 1, a => tw (pw n a)
theorem pw_xor (n : Nat) (x y : G) : pw n (x ^^^ y) = pw n x ^^^ pw n y := by
  induction n with
  | zero => rfl
  | succ n ih => simp [pw, ih, tw_xor]
/-- The first n terms of the product. -/
def gpart (a b : G) : Nat → G
  | 0 => 0#8
  | n + 1 => if b.getLsbD n then gpart a b n ^^^ pw n a else gpart a b n
def mul (a b : G) : G := gpart a b 8
theorem part_left (x y b : G) (n : Nat) : gpart (x ^^^ y) b n = gpart x b n ^^^ gpart y b n := by
  induction n with
  | zero => simp [gpart]
  | succ n ih =>
    simp only [gpart, ih, pw_xor]
    split <;> ac_rfl
theorem part_right (a x y : G) (n : Nat) : gpart a (x ^^^ y) n = gpart a x n ^^^ gpart a y n := by
  induction n with
  | zero => simp [gpart]
  | succ n ih =>
    simp only [gpart, ih, BitVec.getLsbD_xor]
    have e : gpart a x n ^^^ pw n a ^^^ (gpart a y n ^^^ pw n a) = gpart a x n ^^^ gpart a y n := by
      have : gpart a x n ^^^ pw n a ^^^ (gpart a y n ^^^ pw n a) = gpart a x n ^^^ gpart a y n ^^^ (pw n a ^^^ pw n a) := by ac_rfl
      rw [this]; simp
    cases x.getLsbD n <;> cases y.getLsbD n <;> simp [e] <;> ac_rfl
theorem xmul (x y b : G) : mul (x ^^^ y) b = mul x b ^^^ mul y b := part_left x y b 8
theorem mulx (a x y : G) : mul a (x ^^^ y) = mul a x ^^^ mul a y := part_right a x y 8
/-- Two additive functions that agree on the eight bits are one. -/
theorem bits_ext (f g : G → G) (hf : ∀ x y, f (x ^^^ y) = f x ^^^ f y) (hg : ∀ x y, g (x ^^^ y) = g x ^^^ g y)
    (h : ∀ i : Fin 8, f (1#8 <<< i.val) = g (1#8 <<< i.val)) (x : G) : f x = g x := by
  have z : ∀ k : G → G, (∀ x y, k (x ^^^ y) = k x ^^^ k y) → k 0#8 = 0#8 := fun k hk => by
    have := hk 0#8 0#8
    simp at this
    exact this
  have step : ∀ (i : Fin 8) (b : Bool), f (if b then 1#8 <<< i.val else 0#8) = g (if b then 1#8 <<< i.val else 0#8) := fun i b => by
    cases b
    · simp [z f hf, z g hg]
    · simpa using h i
  have e : ∀ x : G, x = (if x.getLsbD 0 then 1#8 <<< 0 else 0#8) ^^^ ((if x.getLsbD 1 then 1#8 <<< 1 else 0#8) ^^^ ((if x.getLsbD 2 then 1#8 <<< 2 else 0#8) ^^^ ((if x.getLsbD 3 then 1#8 <<< 3 else 0#8) ^^^ ((if x.getLsbD 4 then 1#8 <<< 4 else 0#8) ^^^ ((if x.getLsbD 5 then 1#8 <<< 5 else 0#8) ^^^ ((if x.getLsbD 6 then 1#8 <<< 6 else 0#8) ^^^ (if x.getLsbD 7 then 1#8 <<< 7 else 0#8))))))) := by decide +kernel
  rw [e x]
  simp only [hf, hg]
  have s0 := step 0 (x.getLsbD 0); have s1 := step 1 (x.getLsbD 1); have s2 := step 2 (x.getLsbD 2); have s3 := step 3 (x.getLsbD 3)
  have s4 := step 4 (x.getLsbD 4); have s5 := step 5 (x.getLsbD 5); have s6 := step 6 (x.getLsbD 6); have s7 := step 7 (x.getLsbD 7)
  simp only [Fin.isValue, Fin.val_zero, Fin.val_one, Fin.val_two, Fin.val_ofNat] at s0 s1 s2 s3 s4 s5 s6 s7
  exact congr (congrArg _ s0) (congr (congrArg _ s1) (congr (congrArg _ s2) (congr (congrArg _ s3) (congr (congrArg _ s4) (congr (congrArg _ s5) (congr (congrArg _ s6) s7))))))
theorem mul_comm (a b : G) : mul a b = mul b a := by
  refine bits_ext (fun x => mul x b) (fun x => mul b x) (fun x y => xmul x y b) (fun x y => mulx b x y) (fun i => ?_) a
  refine bits_ext (fun y => mul (1#8 <<< i.val) y) (fun y => mul y (1#8 <<< i.val)) (fun x y => mulx _ x y) (fun x y => xmul x y _) (fun j => ?_) b
  revert i j
  decide +kernel
theorem mul_assoc (a b c : G) : mul a (mul b c) = mul (mul a b) c := by
  refine bits_ext (fun x => mul x (mul b c)) (fun x => mul (mul x b) c) (fun x y => xmul x y _) (fun x y => by simp only [xmul]) (fun i => ?_) a
  refine bits_ext (fun y => mul (1#8 <<< i.val) (mul y c)) (fun y => mul (mul (1#8 <<< i.val) y) c) (fun x y => by simp only [xmul, mulx]) (fun x y => by simp only [xmul, mulx]) (fun j => ?_) b
  refine bits_ext (fun z => mul (1#8 <<< i.val) (mul (1#8 <<< j.val) z)) (fun z => mul (mul (1#8 <<< i.val) (1#8 <<< j.val)) z) (fun x y => by simp only [mulx]) (fun x y => by simp only [mulx]) (fun k => ?_) c
  revert i j k
  decide +kernel
theorem mul_zero (a : G) : mul a 0#8 = 0#8 := by
  have := mulx a 0#8 0#8
  simp at this
  exact this
theorem zero_mul (a : G) : mul 0#8 a = 0#8 := by rw [mul_comm, mul_zero]
theorem mul_one (a : G) : mul a 1#8 = a := by revert a; decide +kernel
theorem one_mul (a : G) : mul 1#8 a = a := by rw [mul_comm, mul_one]
theorem mul_two (a : G) : mul a 2#8 = tw a := by revert a; decide +kernel
/-- The pair (a, b) behind n rounds of the inverse's loop. -/
def invTo (a : G) : Nat → G × G
  | 0 => (a, 1#8)
  | n + 1 => let p := invTo a n; (mul p.1 p.1, mul p.2 (mul p.1 p.1))
def inv (a : G) : G := (invTo a 7).2
set_option maxRecDepth 100000 in
theorem mul_inv (a : G) (h : a ≠ 0#8) : mul a (inv a) = 1#8 := by revert a; decide +kernel
theorem inv_mul (a : G) (h : a ≠ 0#8) : mul (inv a) a = 1#8 := by rw [mul_comm, mul_inv a h]
theorem inv_ne (a : G) (h : a ≠ 0#8) : inv a ≠ 0#8 := fun e => by
  have := mul_inv a h
  rw [e, mul_zero] at this
  exact absurd this (by decide)
theorem mul_eq_zero (a b : G) (h : mul a b = 0#8) : a = 0#8 ∨ b = 0#8 := by
  by_cases ha : a = 0#8
  · exact .inl ha
  · right
    have : mul (inv a) (mul a b) = b := by rw [mul_assoc, inv_mul a ha, one_mul]
    rw [← this, h, mul_zero]
theorem mul_ne (a b : G) (ha : a ≠ 0#8) (hb : b ≠ 0#8) : mul a b ≠ 0#8 := fun h => by
  rcases mul_eq_zero a b h with h | h
  · exact ha h
  · exact hb h
/-- The one inverse. -/
theorem inv_unique (a b : G) (h : mul a b = 1#8) : b = inv a := by
  have ha : a ≠ 0#8 := fun e => by rw [e, zero_mul] at h; exact absurd h (by decide)
  have : mul (inv a) (mul a b) = b := by rw [mul_assoc, inv_mul a ha, one_mul]
  rw [← this, h, mul_one]
theorem inv_inv (a : G) (h : a ≠ 0#8) : inv (inv a) = a := (inv_unique _ _ (inv_mul a h)).symm
theorem xor_eq_zero (a b : G) : a ^^^ b = 0#8 ↔ a = b := by
  constructor
  · intro h
    have : a ^^^ b ^^^ b = b := by rw [h]; simp
    rw [BitVec.xor_assoc] at this
    simpa using this
  · rintro rfl; simp
theorem xor_ne (a b : G) (h : a ≠ b) : a ^^^ b ≠ 0#8 := fun e => h ((xor_eq_zero a b).1 e)
theorem xor_self (a : G) : a ^^^ a = 0#8 := by simp
theorem xor_cancel (a b : G) : a ^^^ b ^^^ b = a := by rw [BitVec.xor_assoc]; simp

/-! ### Polynomials -/
def ev : List G → G → G
  | [], _ => 0#8
  | c :: l, x => c ^^^ mul x (ev l x)
/-- What the sums of powers come to, from the power p on. -/
def evp : List G → G → G → G
  | [], _, _ => 0#8
  | c :: l, p, x => mul c p ^^^ evp l (mul p x) x
theorem evp_eq (l : List G) (x : G) : ∀ p, evp l p x = mul p (ev l x) := by
  induction l with
  | nil => intro p; simp [evp, ev, mul_zero]
  | cons c l ih => intro p; simp [evp, ev, ih, mulx, mul_assoc, mul_comm c p]
theorem evp_one (l : List G) (x : G) : evp l 1#8 x = ev l x := by rw [evp_eq, one_mul]
theorem ev_zero (l : List G) : ev l 0#8 = l.headD 0#8 := by cases l <;> simp [ev, zero_mul]
def power (x : G) : Nat → G
  | 0 => 1#8
  | n + 1 => mul x (power x n)
theorem ev_append (l m : List G) (x : G) : ev (l ++ m) x = ev l x ^^^ mul (power x l.length) (ev m x) := by
  induction l with
  | nil => simp [ev, power, one_mul]
  | cons c l ih => simp [ev, ih, power, mulx, mul_assoc, BitVec.xor_assoc]
theorem ev_zeros (l : List G) (n : Nat) (x : G) : ev (l ++ List.replicate n 0#8) x = ev l x := by
  have z : ev (List.replicate n 0#8) x = 0#8 := by
    induction n with
    | zero => rfl
    | succ n ih => simp [List.replicate_succ, ev, ih, mul_zero]
  rw [ev_append, z, mul_zero]; simp
/-- The sum, coefficient by coefficient (of lists of one length). -/
def add (l m : List G) : List G := List.zipWith (fun a b => a ^^^ b) l m
theorem ev_add : ∀ (l m : List G), l.length = m.length → ∀ x, ev (add l m) x = ev l x ^^^ ev m x
  | [], [], _, x => by simp [add, ev]
  | a :: l, b :: m, h, x => by
    have ih := ev_add l m (by simpa using h) x
    simp only [add] at ih
    simp only [add, List.zipWith_cons_cons, ev, ih, mulx]
    ac_rfl
theorem add_length (l m : List G) (h : l.length = m.length) : (add l m).length = l.length := by simp [add, h]
def scale (c : G) (l : List G) : List G := l.map (mul c)
theorem ev_scale (c : G) (l : List G) (x : G) : ev (scale c l) x = mul c (ev l x) := by
  induction l with
  | nil => simp [scale, ev, mul_zero]
  | cons a l ih =>
    simp only [scale] at ih
    simp only [scale, List.map_cons, ev, ih, mulx]
    rw [mul_assoc, mul_comm x c, ← mul_assoc]
/-- The product with (a + b x). -/
def lin (l : List G) (a b : G) : List G := add (scale a l ++ [0#8]) (0#8 :: scale b l)
theorem lin_length (l : List G) (a b : G) : (lin l a b).length = l.length + 1 := by simp [lin, add, scale]
theorem ev_lin (l : List G) (a b x : G) : ev (lin l a b) x = mul (ev l x) (a ^^^ mul b x) := by
  rw [lin, ev_add _ _ (by simp [scale])]
  have h1 : ev (scale a l ++ [0#8]) x = mul a (ev l x) := by
    have := ev_zeros (scale a l) 1 x
    simp only [List.replicate_succ, List.replicate_zero] at this
    rw [this, ev_scale]
  rw [h1]
  simp only [ev, ev_scale, mulx]
  rw [mul_comm (ev l x) a, mul_comm (ev l x) (mul b x), mul_assoc x b, mul_comm x b]
  simp

/-! ### A polynomial with more roots than its degree is zero. The coefficients stand here with the highest first. -/
def hs (x : G) (s c : G) : G := mul s x ^^^ c
def evr (l : List G) (x : G) : G := l.foldl (hs x) 0#8
theorem evr_snoc (l : List G) (c x : G) : evr (l ++ [c]) x = mul (evr l x) x ^^^ c := by simp [evr, hs]
theorem ev_reverse (l : List G) (x : G) : ev l x = evr l.reverse x := by
  induction l with
  | nil => rfl
  | cons c l ih => rw [List.reverse_cons, evr_snoc, ← ih, ev, mul_comm, BitVec.xor_comm]
/-- Division by (x + r): the quotient, the remainder. -/
def dv (r : G) : G → List G → List G × G
  | a, [] => ([], a)
  | a, c :: l => (a :: (dv r (c ^^^ mul r a) l).1, (dv r (c ^^^ mul r a) l).2)
theorem dv_length (r : G) (l : List G) : ∀ a, (dv r a l).1.length = l.length := by
  induction l with
  | nil => intro a; rfl
  | cons c l ih => intro a; simp [dv, ih]
theorem dv_spec (r x : G) (l : List G) : ∀ (a s : G), l.foldl (hs x) (mul s (x ^^^ r) ^^^ a) = mul ((dv r a l).1.foldl (hs x) s) (x ^^^ r) ^^^ (dv r a l).2 := by
  induction l with
  | nil => intro a s; rfl
  | cons c l ih =>
    intro a s
    simp only [dv, List.foldl_cons]
    rw [← ih]
    congr 1
    simp only [hs, mulx, xmul]
    have e : mul a x ^^^ c = mul a x ^^^ mul a r ^^^ (c ^^^ mul r a) := by
      rw [mul_comm r a]
      have : mul a x ^^^ mul a r ^^^ (c ^^^ mul a r) = mul a x ^^^ c ^^^ (mul a r ^^^ mul a r) := by ac_rfl
      rw [this]; simp
    have e2 : mul (mul s r) x = mul (mul s x) r := by rw [← mul_assoc, ← mul_assoc, mul_comm r x]
    rw [e2]
    have : mul (mul s x) x ^^^ mul (mul s x) r ^^^ mul a x ^^^ c = mul (mul s x) x ^^^ mul (mul s x) r ^^^ (mul a x ^^^ c) := by ac_rfl
    rw [this, e]
    ac_rfl
theorem dv_zero (r : G) (l : List G) : ∀ a, (∀ q ∈ (dv r a l).1, q = 0#8) → (dv r a l).2 = 0#8 → a = 0#8 ∧ ∀ c ∈ l, c = 0#8 := by
  induction l with
  | nil => intro a _ h; exact ⟨h, by simp⟩
  | cons c l ih =>
    intro a h1 h2
    simp only [dv, List.mem_cons, forall_eq_or_imp] at h1 h2
    have ha := h1.1
    subst ha
    obtain ⟨hc, hl⟩ := ih _ h1.2 h2
    simp only [mul_zero, BitVec.xor_zero] at hc
    exact ⟨rfl, by simpa [hc] using hl⟩
theorem roots : ∀ (n : Nat) (l : List G) (xs : List G), l.length = n → n ≤ xs.length → xs.Nodup → (∀ x ∈ xs, evr l x = 0#8) → ∀ c ∈ l, c = 0#8
  | 0, l, xs, hl, _, _, _ => by
    have : l = [] := List.eq_nil_of_length_eq_zero hl
    simp [this]
  | n + 1, [], _, hl, _, _, _ => by simp at hl
  | n + 1, a :: l, [], _, hx, _, _ => by simp at hx
  | n + 1, a :: l, r :: xs, hl, hx, hd, hr => by
    have sp : ∀ x, evr (a :: l) x = mul (evr (dv r a l).1 x) (x ^^^ r) ^^^ (dv r a l).2 := fun x => by
      have := dv_spec r x l a 0#8
      simp only [zero_mul, BitVec.zero_xor] at this
      simp only [evr, List.foldl_cons, hs, zero_mul, BitVec.zero_xor]
      exact this
    have rem : (dv r a l).2 = 0#8 := by
      have := hr r (by simp)
      rw [sp] at this
      simpa [mul_zero] using this
    have hd' := List.nodup_cons.1 hd
    have hq := roots n (dv r a l).1 xs (by rw [dv_length]; simpa using hl) (by simpa using hx) hd'.2 (fun x hm => by
      have h0 := hr x (by simp [hm])
      rw [sp, rem, BitVec.xor_zero] at h0
      rcases mul_eq_zero _ _ h0 with h | h
      · exact h
      · rw [xor_eq_zero] at h
        subst h
        exact absurd hm hd'.1)
    obtain ⟨ha, hl'⟩ := dv_zero r l a hq rem
    simpa [ha] using hl'
/-- TWO POLYNOMIALS OF ONE LENGTH n THAT AGREE AT n PLACES ARE ONE. -/
theorem unique (l m xs : List G) (hl : l.length = m.length) (hx : l.length ≤ xs.length) (hd : xs.Nodup) (h : ∀ x ∈ xs, ev l x = ev m x) : l = m := by
  have hz := roots (add l m).length (add l m).reverse xs (by simp) (by rw [add_length _ _ hl]; exact hx) hd (fun x hm => by
    rw [← ev_reverse, ev_add l m hl, h x hm, xor_self])
  apply List.ext_getElem hl
  intro i h1 h2
  have hm : l[i] ^^^ m[i] ∈ add l m := by
    refine List.mem_iff_getElem.2 ⟨i, by rw [add_length _ _ hl]; exact h1, by simp [add]⟩
  exact (xor_eq_zero _ _).1 (hz _ (by simpa using hm))
end Go.Proofs.Ytillfbohengpaaa.Gf

/-
  PLAIN: interpolation, as the program does it (Newton) and as the reference does it (Lagrange): both give the one polynomial.
-/
set_option linter.unusedVariables false
set_option linter.unusedSimpArgs false
namespace Go.Proofs.Ytillfbohengpaaa.Gf
def g (l : List G) (i : Nat) : G := l.getD i 0#8
theorem g_eq (l : List G) (i : Nat) (h : i < l.length) : g l i = l[i] := by simp [g, h]
theorem g_mem (l : List G) (i : Nat) (h : i < l.length) : g l i ∈ l := by rw [g_eq l i h]; exact List.getElem_mem h
theorem g_ne (xs : List G) (hd : xs.Nodup) (i j : Nat) (hi : i < xs.length) (hj : j < xs.length) (h : i ≠ j) : g xs i ≠ g xs j := by
  rw [g_eq xs i hi, g_eq xs j hj]
  have hp := List.pairwise_iff_getElem.1 hd
  intro e
  rcases Nat.lt_or_gt_of_ne h with l | l
  · exact hp i j hi hj l e
  · exact hp j i hj hi l e.symm
/-- One point more: (zero, l). -/
def nstep (s : List G × List G) (x y : G) : List G × List G :=
  (lin s.1 x 1#8, add (s.2 ++ [0#8]) (scale (mul (y ^^^ ev s.2 x) (inv (ev s.1 x))) s.1))
def ntTo (xs ys : List G) : Nat → List G × List G
  | 0 => ([1#8], [])
  | i + 1 => nstep (ntTo xs ys i) (g xs i) (g ys i)
def coefs (xs ys : List G) : List G := (ntTo xs ys xs.length).2
theorem ntTo_length (xs ys : List G) (i : Nat) : (ntTo xs ys i).1.length = i + 1 ∧ (ntTo xs ys i).2.length = i := by
  induction i with
  | zero => exact ⟨rfl, rfl⟩
  | succ i ih => simp only [ntTo, nstep]; exact ⟨by rw [lin_length, ih.1], by rw [add_length _ _ (by simp [scale, ih.1, ih.2])]; simp [ih.2]⟩
theorem ntTo_spec (xs ys : List G) (hd : xs.Nodup) (i : Nat) (hi : i ≤ xs.length) :
    (∀ j, j < i → ev (ntTo xs ys i).1 (g xs j) = 0#8 ∧ ev (ntTo xs ys i).2 (g xs j) = g ys j) ∧ (∀ x, (∀ j, j < i → x ≠ g xs j) → ev (ntTo xs ys i).1 x ≠ 0#8) := by
  induction i with
  | zero => exact ⟨fun j h => by omega, fun x _ => by simp [ntTo, ev, mul_zero]⟩
  | succ i ih =>
    obtain ⟨h1, h2⟩ := ih (by omega)
    obtain ⟨l1, l2⟩ := ntTo_length xs ys i
    simp only [ntTo, nstep]
    generalize ntTo xs ys i = s at *
    obtain ⟨z, l⟩ := s
    dsimp only at *
    have hz : ev z (g xs i) ≠ 0#8 := h2 _ (fun j hj => g_ne xs hd i j (by omega) (by omega) (by omega))
    have evz : ∀ x, ev (lin z (g xs i) 1#8) x = mul (ev z x) (g xs i ^^^ x) := fun x => by rw [ev_lin, one_mul]
    have evl : ∀ x, ev (add (l ++ [0#8]) (scale (mul (g ys i ^^^ ev l (g xs i)) (inv (ev z (g xs i)))) z)) x = ev l x ^^^ mul (mul (g ys i ^^^ ev l (g xs i)) (inv (ev z (g xs i)))) (ev z x) := fun x => by
      rw [ev_add _ _ (by simp [scale, l1, l2]), ev_scale]
      have := ev_zeros l 1 x
      simp only [List.replicate_succ, List.replicate_zero] at this
      rw [this]
    refine ⟨fun j hj => ?_, fun x hx => ?_⟩
    · rw [evz, evl]
      by_cases e : j = i
      · subst e
        rw [xor_self, mul_zero, ← mul_assoc, inv_mul _ hz, mul_one]
        refine ⟨rfl, ?_⟩
        have : ev l (g xs j) ^^^ (g ys j ^^^ ev l (g xs j)) = g ys j ^^^ (ev l (g xs j) ^^^ ev l (g xs j)) := by ac_rfl
        rw [this]; simp
      · obtain ⟨a, b⟩ := h1 j (by omega)
        rw [a, b, zero_mul, mul_zero]
        simp
    · rw [evz]
      exact mul_ne _ _ (h2 x (fun j hj => hx j (by omega))) (xor_ne _ _ (fun e => hx i (by omega) e.symm))
theorem coefs_length (xs ys : List G) : (coefs xs ys).length = xs.length := (ntTo_length xs ys xs.length).2
theorem coefs_at (xs ys : List G) (hd : xs.Nodup) (j : Nat) (h : j < xs.length) : ev (coefs xs ys) (g xs j) = g ys j :=
  ((ntTo_spec xs ys hd xs.length (Nat.le_refl _)).1 j h).2
/-- Whatever has as many coefficients and the values is the one. -/
theorem coefs_unique (xs ys l : List G) (hd : xs.Nodup) (hl : l.length = xs.length) (h : ∀ j, j < xs.length → ev l (g xs j) = g ys j) : l = coefs xs ys := by
  refine unique l (coefs xs ys) xs (by rw [coefs_length, hl]) (by omega) hd (fun x hm => ?_)
  obtain ⟨j, hj, rfl⟩ := List.mem_iff_getElem.1 hm
  rw [← g_eq xs j hj, h j hj, coefs_at xs ys hd j hj]

/-! ### The value as the programs reckon it: powers, and the sum of the first i terms -/
def pws (x : G) : Nat → G
  | 0 => 1#8
  | i + 1 => mul (pws x i) x
def evTo (l : List G) (x : G) : Nat → G
  | 0 => 0#8
  | i + 1 => evTo l x i ^^^ mul (g l i) (pws x i)
theorem evTo_succ (l : List G) (x : G) (k : Nat) (h : k < l.length) : evTo l x (k + 1) = evTo l x k ^^^ mul l[k] (pws x k) := by rw [evTo, g_eq l k h]
theorem evTo_drop (l : List G) (x : G) (i : Nat) (h : i ≤ l.length) : evTo l x i ^^^ evp (l.drop i) (pws x i) x = ev l x := by
  induction i with
  | zero => simp [evTo, pws, evp_one]
  | succ i ih =>
    rw [← ih (by omega), evTo, pws, BitVec.xor_assoc]
    congr 1
    have hd : l.drop i = l[i] :: l.drop (i + 1) := List.drop_eq_getElem_cons (by omega)
    rw [hd, evp, g_eq l i (by omega)]
theorem evTo_all (l : List G) (x : G) : evTo l x l.length = ev l x := by
  have := evTo_drop l x l.length (Nat.le_refl _)
  simpa [evp] using this

/-! ### The loops that add, and that multiply by (a + b x), coefficient by coefficient -/
def addTo (l m : List G) (j : Nat) : List G := (List.range l.length).map fun i => if i < j then g l i ^^^ g m i else g l i
theorem addTo_length (l m : List G) (j : Nat) : (addTo l m j).length = l.length := by simp [addTo]
theorem addTo_zero (l m : List G) : addTo l m 0 = l := by
  apply List.ext_getElem (by simp [addTo])
  intro i h1 h2
  simp [addTo, g_eq l i h2]
theorem addTo_set (l m : List G) (j : Nat) (hj : j < l.length) (h : j < (addTo l m j).length) : (addTo l m j).set j ((addTo l m j)[j] ^^^ g m j) = addTo l m (j + 1) := by
  apply List.ext_getElem (by simp [addTo])
  intro i h1 h2
  simp only [List.getElem_set]
  by_cases e : j = i
  · subst e; simp [addTo]
  · simp only [e, if_false]
    simp only [addTo, List.getElem_map, List.getElem_range]
    have : i < j ↔ i < j + 1 := by omega
    simp only [this]
theorem addTo_all (l m : List G) (h : l.length = m.length) (j : Nat) (hj : l.length ≤ j) : addTo l m j = add l m := by
  apply List.ext_getElem (by simp [addTo, add, h])
  intro i h1 h2
  have hi : i < l.length := by simpa [addTo] using h1
  simp only [addTo, add, List.getElem_map, List.getElem_range, List.getElem_zipWith]
  rw [if_pos (by omega), g_eq l i hi, g_eq m i (by omega)]
def linTo (l : List G) (a b : G) (j : Nat) : List G :=
  (List.range (l.length + 1)).map fun i => (if i < j then mul (g l i) a else 0#8) ^^^ (if 0 < i ∧ i ≤ j then mul (g l (i - 1)) b else 0#8)
theorem linTo_length (l : List G) (a b : G) (j : Nat) : (linTo l a b j).length = l.length + 1 := by simp [linTo]
theorem linTo_zero (l : List G) (a b : G) : linTo l a b 0 = List.replicate (l.length + 1) 0#8 := by
  apply List.ext_getElem (by simp [linTo])
  intro i h1 h2
  simp only [linTo, List.getElem_map, List.getElem_range, List.getElem_replicate]
  rw [if_neg (by omega), if_neg (by omega)]
  simp
/-- The list in the midst of a round. -/
def linMid (l : List G) (a b : G) (j : Nat) : List G := (linTo l a b j).set j (g (linTo l a b j) j ^^^ mul (g l j) a)
theorem linMid_length (l : List G) (a b : G) (j : Nat) : (linMid l a b j).length = l.length + 1 := by simp [linMid, linTo]
theorem linTo_set (l : List G) (a b : G) (j : Nat) (hj : j < l.length) : (linMid l a b j).set (j + 1) (g (linMid l a b j) (j + 1) ^^^ mul (g l j) b) = linTo l a b (j + 1) := by
  have gl : ∀ i, i < l.length + 1 → g (linTo l a b j) i = (if i < j then mul (g l i) a else 0#8) ^^^ (if 0 < i ∧ i ≤ j then mul (g l (i - 1)) b else 0#8) := fun i hi => by
    rw [g_eq _ i (by rw [linTo_length]; exact hi)]; simp [linTo]
  have gm : g (linMid l a b j) (j + 1) = 0#8 := by
    rw [g_eq _ (j + 1) (by rw [linMid_length]; omega)]
    simp only [linMid, List.getElem_set]
    rw [if_neg (by omega), ← g_eq _ (j + 1) (by rw [linTo_length]; omega), gl _ (by omega), if_neg (by omega), if_neg (by omega)]
    simp
  rw [gm]
  apply List.ext_getElem (by simp [linMid, linTo])
  intro i h1 h2
  have hi : i < l.length + 1 := by rw [linTo_length] at h2; exact h2
  simp only [linMid, List.getElem_set]
  have e2 : (linTo l a b (j + 1))[i] = (if i < j + 1 then mul (g l i) a else 0#8) ^^^ (if 0 < i ∧ i ≤ j + 1 then mul (g l (i - 1)) b else 0#8) := by simp [linTo]
  have e1 : (linTo l a b j)[i]'(by rw [linTo_length]; exact hi) = (if i < j then mul (g l i) a else 0#8) ^^^ (if 0 < i ∧ i ≤ j then mul (g l (i - 1)) b else 0#8) := by simp [linTo]
  rw [e2, e1]
  by_cases c1 : j + 1 = i
  · subst c1
    rw [if_pos rfl, if_neg (by omega), if_pos (by omega)]
    simp
  · rw [if_neg c1]
    by_cases c2 : j = i
    · subst c2
      rw [if_pos rfl, gl _ (by omega), if_pos (show j < j + 1 by omega), if_neg (show ¬ j < j by omega)]
      have : (0 < j ∧ j ≤ j) ↔ (0 < j ∧ j ≤ j + 1) := by omega
      simp only [this]
      rw [BitVec.zero_xor, BitVec.xor_comm]
    · rw [if_neg c2]
      have c3 : i < j ↔ i < j + 1 := by omega
      have c4 : (0 < i ∧ i ≤ j) ↔ (0 < i ∧ i ≤ j + 1) := by omega
      simp only [c3, c4]
theorem linTo_all (l : List G) (a b : G) : linTo l a b l.length = lin l a b := by
  apply List.ext_getElem (by simp [linTo, lin_length])
  intro i h1 h2
  have hi : i < l.length + 1 := by rw [linTo_length] at h1; exact h1
  simp only [lin, add, linTo, List.getElem_map, List.getElem_range, List.getElem_zipWith]
  congr 1
  · by_cases c : i < l.length
    · rw [if_pos c, List.getElem_append_left (by simpa [scale] using c)]
      simp [scale, g_eq l i c, mul_comm]
    · rw [if_neg c, List.getElem_append_right (by simp [scale]; omega)]
      simp
  · cases i with
    | zero => simp
    | succ i =>
      rw [if_pos (by omega)]
      simp [scale, g_eq l i (by omega), mul_comm]

/-! ### Lagrange -/
def over (a b : G) : G := mul a (inv b)
/-- The polynomial of point i behind k rounds. -/
def oneTo (xs ys : List G) (i : Nat) : Nat → List G
  | 0 => [g ys i]
  | k + 1 => if k = i then oneTo xs ys i k else lin (oneTo xs ys i k) (mul (over 1#8 (g xs i ^^^ g xs k)) (g xs k)) (over 1#8 (g xs i ^^^ g xs k))
def lagTo (xs ys : List G) : Nat → List G
  | 0 => List.replicate xs.length 0#8
  | i + 1 => add (lagTo xs ys i) (oneTo xs ys i xs.length)
def oneAt (xs ys : List G) (at_ : G) (i : Nat) : Nat → G
  | 0 => g ys i
  | k + 1 => if k = i then oneAt xs ys at_ i k else mul (oneAt xs ys at_ i k) (over (at_ ^^^ g xs k) (g xs i ^^^ g xs k))
def thrTo (xs ys : List G) (at_ : G) : Nat → G
  | 0 => 0#8
  | i + 1 => thrTo xs ys at_ i ^^^ oneAt xs ys at_ i xs.length
theorem oneTo_length (xs ys : List G) (i k : Nat) : (oneTo xs ys i k).length = k + (if i < k then 0 else 1) := by
  induction k with
  | zero => simp [oneTo]
  | succ k ih =>
    simp only [oneTo]
    split
    · rename_i h; subst h; rw [ih]; simp
    · rw [lin_length, ih]
      by_cases h : i < k
      · rw [if_pos h, if_pos (by omega)]
      · rw [if_neg h, if_neg (by omega)]
theorem oneTo_full (xs ys : List G) (i : Nat) (h : i < xs.length) : (oneTo xs ys i xs.length).length = xs.length := by rw [oneTo_length, if_pos h]; rfl
theorem lagTo_length (xs ys : List G) (i : Nat) (h : i ≤ xs.length) : (lagTo xs ys i).length = xs.length := by
  induction i with
  | zero => simp [lagTo]
  | succ i ih => rw [lagTo, add_length _ _ (by rw [ih (by omega), oneTo_full xs ys i (by omega)]), ih (by omega)]
theorem ev_oneTo (xs ys : List G) (x : G) (i k : Nat) : ev (oneTo xs ys i k) x = oneAt xs ys x i k := by
  induction k with
  | zero => simp [oneTo, oneAt, ev, mul_zero]
  | succ k ih =>
    simp only [oneTo, oneAt]
    split
    · exact ih
    · rw [ev_lin, ih, over, over, one_mul]
      congr 1
      rw [mul_comm (x ^^^ g xs k), mulx, BitVec.xor_comm]
theorem ev_lagTo (xs ys : List G) (x : G) (i : Nat) (h : i ≤ xs.length) : ev (lagTo xs ys i) x = thrTo xs ys x i := by
  induction i with
  | zero =>
    have := ev_zeros [] xs.length x
    simpa [lagTo, thrTo, ev] using this
  | succ i ih =>
    rw [lagTo, ev_add _ _ (by rw [lagTo_length xs ys i (by omega), oneTo_full xs ys i (by omega)]), ih (by omega), ev_oneTo, thrTo]
theorem oneAt_zero (xs ys : List G) (i j : Nat) (hij : j ≠ i) (k : Nat) (h : j < k) : oneAt xs ys (g xs j) i k = 0#8 := by
  induction k with
  | zero => omega
  | succ k ih =>
    simp only [oneAt]
    split
    · rename_i e; exact ih (by omega)
    · by_cases e : j = k
      · subst e; rw [xor_self, over, zero_mul, mul_zero]
      · rw [ih (by omega), zero_mul]
theorem oneAt_self (xs ys : List G) (hd : xs.Nodup) (i : Nat) (hi : i < xs.length) (k : Nat) (h : k ≤ xs.length) : oneAt xs ys (g xs i) i k = g ys i := by
  induction k with
  | zero => rfl
  | succ k ih =>
    simp only [oneAt]
    split
    · exact ih (by omega)
    · rename_i e
      rw [ih (by omega), over, mul_inv _ (xor_ne _ _ (g_ne xs hd i k hi (by omega) (fun e' => e e'.symm))), mul_one]
theorem thrTo_at (xs ys : List G) (hd : xs.Nodup) (j : Nat) (hj : j < xs.length) (i : Nat) (h : i ≤ xs.length) : thrTo xs ys (g xs j) i = if j < i then g ys j else 0#8 := by
  induction i with
  | zero => simp [thrTo]
  | succ i ih =>
    rw [thrTo, ih (by omega)]
    by_cases e : j = i
    · subst e; rw [oneAt_self xs ys hd j hj _ (Nat.le_refl _)]; simp
    · rw [oneAt_zero xs ys i j e _ hj]
      by_cases l : j < i
      · rw [if_pos l, if_pos (by omega)]; simp
      · rw [if_neg l, if_neg (by omega)]; simp
theorem lag_coefs (xs ys : List G) (hd : xs.Nodup) : lagTo xs ys xs.length = coefs xs ys :=
  coefs_unique xs ys _ hd (lagTo_length xs ys _ (Nat.le_refl _)) (fun j hj => by rw [ev_lagTo xs ys _ _ (Nat.le_refl _), thrTo_at xs ys hd j hj _ (Nat.le_refl _), if_pos hj])
theorem thr_coefs (xs ys : List G) (hd : xs.Nodup) (x : G) : thrTo xs ys x xs.length = ev (coefs xs ys) x := by
  rw [← lag_coefs xs ys hd, ev_lagTo xs ys x _ (Nat.le_refl _)]
end Go.Proofs.Ytillfbohengpaaa.Gf

/-
  WORDS: bytes as elements of the field, in the walk's own spelling.
-/
set_option linter.unusedVariables false
set_option linter.unusedSimpArgs false
namespace Go.Proofs.Ytillfbohengpaaa
open Go.RowKit Gf

theorem G_lt (x : G) : x.toNat < 256 := x.isLt
theorem G_le (x : G) : (x.toNat : Int) ≤ 255 := by have := x.isLt; omega
theorem G_ge (x : G) : (0 : Int) ≤ (x.toNat : Int) := by omega
theorem bits_xor_g (a b : G) : bits .xor .u8 (a.toNat : Int) (b.toNat : Int) = ((a ^^^ b).toNat : Int) := by
  unfold bits
  simp only [IntKind.bits]
  rw [IntKind.wrap_u8]
  have h1 : BitVec.ofInt 8 (a.toNat : Int) = a := by simp
  have h2 : BitVec.ofInt 8 (b.toNat : Int) = b := by simp
  rw [h1, h2]
  change (((a ^^^ b : BitVec 8).toNat : Int)) % 256 = ((a ^^^ b : BitVec 8).toNat : Int)
  have := (a ^^^ b : BitVec 8).isLt
  omega
/-- The sum, behind a name that simp does not open. -/
def gx (a b : G) : G := a ^^^ b
theorem bits_gx (a b : G) : bits .xor .u8 (a.toNat : Int) (b.toNat : Int) = ((gx a b).toNat : Int) := bits_xor_g a b
theorem bits_and_bit (b : G) (k : Nat) (h : k < 8) : (bits .and .u8 ((b.toNat : Int) / 2 ^ min (k : Int).toNat 8) 1 == 1) = b.getLsbD k := by
  have hk : k = 0 ∨ k = 1 ∨ k = 2 ∨ k = 3 ∨ k = 4 ∨ k = 5 ∨ k = 6 ∨ k = 7 := by omega
  revert b
  rcases hk with rfl | rfl | rfl | rfl | rfl | rfl | rfl | rfl <;> decide +kernel
theorem tw_hi (x : G) (h : 128 ≤ x.toNat) : bits .xor .u8 ((x.toNat : Int) * 2 % 256) 27 = ((tw x).toNat : Int) := by
  revert x; decide +kernel
theorem tw_lo (x : G) (h : ¬ 128 ≤ x.toNat) : (x.toNat : Int) * 2 % 256 = ((tw x).toNat : Int) := by
  revert x; decide +kernel
theorem below_alloc1 (w : World) (o : Obj) : Below w.heap.size w (w.alloc o) := (Below.refl _ _).alloc (Nat.le_refl _) o
theorem bcell {W w1 : World} (hb : Below W.heap.size W w1) : (∀ b o, b < W.heap.size → w1.cell? ⟨b, o, none⟩ = W.cell? ⟨b, o, none⟩) ∧ (∀ b o, b < W.heap.size → w1.frozen? ⟨b, o, none⟩ = W.frozen? ⟨b, o, none⟩) :=
  ⟨fun b o h => hb.cell (p := ⟨b, o, none⟩) h, fun b o h => hb.frozen (p := ⟨b, o, none⟩) h⟩
/-- One step more of a call that only makes memory. -/
theorem bthen {a b c : World} (h : Below a.heap.size a b) (k : Below b.heap.size b c) : Below a.heap.size a c := h.trans (k.mono h.size)
theorem bthenB {B : Nat} {a b c : World} (h : Below B a b) (hB : B ≤ b.heap.size) (k : Below b.heap.size b c) : Below B a c := h.trans (k.mono hB)
theorem balloc {a b : World} (h : Below a.heap.size a b) (o : Obj) : Below a.heap.size a (b.alloc o) := h.alloc h.size o
theorem bdrewN {B : Nat} {a b : World} (h : Below B a b) (n : Nat) : Below B a (b.drewN n) := by
  obtain ⟨h1, h2, h3, h4, h5⟩ := h
  exact ⟨h1, h2, h3, h4, h5⟩
theorem grown_of_below {w w1 : World} (h : Below w.heap.size w w1) (row : Option Nat) : w.grownBy w1 row := ⟨h.os, h.tape, h.output, h.size, fun i hi _ => h.block i hi⟩
theorem nat_beq (a b : Nat) : ((a : Int) == (b : Int)) = decide (a = b) := by
  rw [Bool.eq_iff_iff, beq_iff_eq, decide_eq_true_eq]; omega
theorem cell_new (w : World) (c : Array Value) (t : TypeId) (fr : Nat × Nat) (b i : Nat) (hb : b = w.heap.size) : (w.alloc (.cells c t fr)).cell? ⟨b, i, none⟩ = c[i]? := by
  subst hb
  simp only [World.cell?, heap_alloc_new]
  rfl
theorem cell_old (w : World) (o : Obj) (a : Addr) (h : a.block < w.heap.size) : (w.alloc o).cell? a = w.cell? a := World.cell?_of_block (Below.heap_alloc w o a.block h)
theorem frozen_old (w : World) (o : Obj) (a : Addr) (h : a.block < w.heap.size) : (w.alloc o).frozen? a = w.frozen? a := World.frozen?_of_block (Below.heap_alloc w o a.block h)
theorem frozen_new (w : World) (c : Array Value) (t : TypeId) (b i : Nat) (hb : b = w.heap.size) : (w.alloc (.cells c t)).frozen? ⟨b, i, none⟩ = false := by
  subst hb
  simp only [World.frozen?, heap_alloc_new]
  simp
theorem cell_set_ne (w : World) (a b : Addr) (v : Value) (h : b.block ≠ a.block) : (w.setCell a v).cell? b = w.cell? b := World.cell?_of_block (Below.heap_setCell w a v b.block h)
/-- A byte as a value. -/
abbrev gv (x : G) : Value := .int .u8 (x.toNat : Int)
/-- A slice (nil, empty or not) of n elements of one cell, which read as l. -/
def RL {α : Type} (enc : α → Value) (w : World) (A : Option Addr) (n : Nat) (l : List α) : Prop :=
  l.length = n ∧ n ≤ 9223372036854775807 ∧ ∀ j (h : j < l.length), ∃ b o, A = some ⟨b, o, none⟩ ∧ b < w.heap.size ∧ w.cell? ⟨b, o + j, none⟩ = some (enc l[j])
theorem RL.below {α : Type} {enc : α → Value} {w w' : World} {A : Option Addr} {n : Nat} {l : List α} (h : RL enc w A n l) (hb : Below w.heap.size w w') : RL enc w' A n l :=
  ⟨h.1, h.2.1, fun j hj => by
    obtain ⟨b, o, e, hlt, hc⟩ := h.2.2 j hj
    exact ⟨b, o, e, Nat.lt_of_lt_of_le hlt hb.size, (hb.cell (p := ⟨b, o + j, none⟩) hlt).trans hc⟩⟩
theorem RL.nil {α : Type} (enc : α → Value) (w : World) (A : Option Addr) : RL enc w A 0 [] := ⟨rfl, by omega, fun j h => by simp at h⟩
theorem RL.at {α : Type} {enc : α → Value} {w : World} {A : Option Addr} {n : Nat} {l : List α} (h : RL enc w A n l) (j : Nat) (hj : j < n) :
    ∃ b o, A = some ⟨b, o, none⟩ ∧ b < w.heap.size ∧ w.cell? ⟨b, o + j, none⟩ = some (enc (l[j]'(by rw [h.1]; exact hj))) := h.2.2 j (by rw [h.1]; exact hj)
end Go.Proofs.Ytillfbohengpaaa

/-
  A REGION THAT DRAWS ITS ORDER AND ENDS IN OPERATIONS THAT WAIT FOR ALL THE OTHERS: the others are walked as a region of their own (quietly), the last ones in the order of the text.
-/
set_option linter.unusedVariables false
set_option linter.unusedSimpArgs false
namespace Go.Proofs.Ytillfbohengpaaa
open Go.RowKit Go.Sort
def splitB (md : Region.Mode) (ops : Array Oper) (n : Nat) : Bool :=
  ((List.range n).all fun i => match ops[i]? with
    | some o => o.after.all (fun e => decide (e.on < i)) && (match o.guard with | some (j, _) => decide (j < n) | none => true)
    | none => false) &&
  ((List.range ops.size).all fun t => decide (t < n) || (List.range n).all fun i => match ops[t]? with
    | some o => o.after.any (fun e => Region.binds md e && e.on == i)
    | none => false) &&
  Region.seqB md ops (ops.size - n) n (Array.replicate n true ++ Array.replicate (ops.size - n) false)
section
variable {P : Program} {md : Region.Mode} {ops : Array Oper} {n m : Nat}
theorem upon_then (o : Oper) (a : Act) (next X : Act → World → Prop) (Q : Exit → Act → World → Prop) (r : Result Next) :
    o.upon P a next (Exit.then X Q) r = o.upon P a next Q r := by
  cases r with
  | ok x w => cases x <;> rfl
  | halt x w => cases x <;> rfl
theorem wp_then (o : Oper) (a : Act) (w : World) (next X : Act → World → Prop) (Q : Exit → Act → World → Prop) : o.wp P a w next (Exit.then X Q) = o.wp P a w next Q := upon_then ..
theorem getD_left {lh : Array Bool} (hl : lh.size = n) (j : Nat) (hj : j < n) (d : Bool) : (lh ++ Array.replicate m false).getD j d = lh.getD j d := by
  simp only [Array.getD_eq_getD_getElem?]
  rw [Array.getElem?_append_left (by omega)]
theorem getD_right {lh : Array Bool} (hl : lh.size = n) (j : Nat) (hj : n ≤ j) : (lh ++ Array.replicate m false).getD j false = false := by
  simp only [Array.getD_eq_getD_getElem?]
  rw [Array.getElem?_append_right (by omega), Array.getElem?_replicate]
  split <;> rfl
theorem any_split (hsz : ops.size = n + m) (hs : splitB md ops n = true) {Q : Exit → Act → World → Prop} :
    ∀ (f : Nat) (lh : Array Bool) (a : Act) (w : World), lh.size = n → lh.toList.count false = f →
      wpAny P md (ops.extract 0 n) (Exit.then (fun a' w' => wpList P ops Q (ops.toList.drop n) a' w') Q) f lh a w → wpAny P md ops Q (f + m) (lh ++ Array.replicate m false) a w := by
  unfold splitB at hs
  simp only [Bool.and_eq_true, List.all_eq_true, List.mem_range] at hs
  obtain ⟨⟨h1, h2⟩, h3⟩ := hs
  have hm : ops.size - n = m := by omega
  rw [hm] at h3
  have hhead : ∀ i, i < n → (ops.extract 0 n)[i]? = ops[i]? := fun i hi => by
    rw [Array.getElem?_extract]
    simp; omega
  intro f
  induction f with
  | zero =>
    intro lh a w hl hc h
    have hall : lh = Array.replicate n true := by
      apply Array.ext
      · simp [hl]
      · intro i hi _
        have : false ∉ lh.toList := List.count_eq_zero.1 hc
        cases e : lh[i] with
        | true => simp
        | false => exact absurd (by rw [← e]; exact Array.getElem_mem_toList _) this
    have hq : wpList P ops Q (ops.toList.drop n) a w := h.2
    have hlen : (ops.toList.drop n).length = m := by simp; omega
    have := wpAny_of_seq (P := P) (Q' := Q) (ops.toList.drop n) n (Array.replicate n true ++ Array.replicate m false) a w (fun j => by simp) (by rw [hlen]; exact h3) hq
    rw [hlen] at this
    rw [hall, Nat.zero_add]
    exact this
  | succ f ih =>
    intro lh a w hl hc h
    have hex : ∃ i, i < n ∧ lh.getD i true = false := by
      have hmem : false ∈ lh.toList := List.count_pos_iff.1 (by omega)
      obtain ⟨i, hi, e⟩ := List.mem_iff_getElem.1 hmem
      have hi' : i < lh.size := by simpa using hi
      refine ⟨i, by omega, ?_⟩
      simp only [Array.getElem_toList] at e
      simp [Array.getD_eq_getD_getElem?, hi', e]
    have hready : ∀ i, i < n → (i ∈ Region.ready md ops (lh ++ Array.replicate m false) ↔ i ∈ Region.ready md (ops.extract 0 n) lh) := by
      intro i hi
      rw [mem_ready, mem_ready, getD_left hl i hi, hhead i hi]
      have key : ∀ e : Edge, (lh ++ Array.replicate m false).getD e.on false = true ↔ lh.getD e.on false = true := fun e => by
        by_cases he : e.on < n
        · rw [getD_left hl _ he]
        · rw [getD_right hl _ (by omega)]
          simp [Array.getD_eq_getD_getElem?, Array.getElem?_eq_none (show lh.size ≤ e.on by omega)]
      simp only [key]
    have htail : ∀ t, t ∈ Region.ready md ops (lh ++ Array.replicate m false) → t < n := by
      intro t ht
      rcases Nat.lt_or_ge t n with hlt | hge
      · exact hlt
      · obtain ⟨_, o, ho, hall⟩ := mem_ready.1 ht
        have hts : t < ops.size := (Array.getElem?_eq_some_iff.1 ho).1
        obtain ⟨i, hi, hun⟩ := hex
        have h4 := h2 t hts
        simp only [Bool.or_eq_true, decide_eq_true_eq, List.all_eq_true, List.mem_range, ho] at h4
        rcases h4 with h4 | h4
        · omega
        · obtain ⟨e, he, hb⟩ := Array.any_eq_true'.1 (h4 i hi)
          simp only [Bool.and_eq_true, beq_iff_eq] at hb
          have h5 := hall e he hb.1
          rw [hb.2, getD_left hl i hi] at h5
          have : lh.getD i false = false := getD_both hun
          rw [this] at h5; cases h5
    rw [show f + 1 + m = (f + m) + 1 by omega]
    refine ⟨fun h0 => ?_, fun i hi => ?_⟩
    · exfalso
      have hmin : ∀ k i, i ≤ k → i < n → lh.getD i true = false → ∃ j, j ∈ Region.ready md (ops.extract 0 n) lh ∧ j < n := by
        intro k
        induction k with
        | zero =>
          intro i hik hi hun
          obtain rfl : i = 0 := by omega
          have hi0 := h1 0 hi
          have ho : ∃ o, ops[0]? = some o := ⟨ops[0]'(by omega), by simp [show 0 < ops.size by omega]⟩
          obtain ⟨o, ho⟩ := ho
          rw [ho] at hi0
          simp only [Bool.and_eq_true] at hi0
          refine ⟨0, mem_ready.2 ⟨hun, o, by rw [hhead 0 hi]; exact ho, fun e he hb => ?_⟩, hi⟩
          have := Array.all_eq_true'.1 hi0.1 e he
          simp at this
        | succ k ihk =>
          intro i hik hi hun
          by_cases hall : ∀ j, j < i → lh.getD j false = true
          · have hi0 := h1 i hi
            have ho : ∃ o, ops[i]? = some o := ⟨ops[i]'(by omega), by simp [show i < ops.size by omega]⟩
            obtain ⟨o, ho⟩ := ho
            rw [ho] at hi0
            simp only [Bool.and_eq_true] at hi0
            refine ⟨i, mem_ready.2 ⟨hun, o, by rw [hhead i hi]; exact ho, fun e he hb => ?_⟩, hi⟩
            have := Array.all_eq_true'.1 hi0.1 e he
            exact hall _ (by simpa using this)
          · obtain ⟨j, hj⟩ := Classical.not_forall.1 hall
            obtain ⟨hji, hjf⟩ := Classical.not_imp.1 hj
            refine ihk j (by omega) (by omega) ?_
            have hjs : j < lh.size := by omega
            exact getD_in hjs (by simpa using hjf)
      obtain ⟨i, hi, hun⟩ := hex
      obtain ⟨j, hj, hjn⟩ := hmin i i (Nat.le_refl _) hi hun
      rw [← hready j hjn, h0] at hj
      cases hj
    · have hin := htail i hi
      have hih := (hready i hin).1 hi
      have hop := h.2 i hih
      have hset : (lh ++ Array.replicate m false).setIfInBounds i true = lh.setIfInBounds i true ++ Array.replicate m false := by
        rw [Array.setIfInBounds_append_left (by omega)]
      rw [hset]
      have hun := (mem_ready.1 hih).1
      have his : i < lh.size := by omega
      have hcount : (lh.setIfInBounds i true).toList.count false = f := by
        have hli : lh[i] = false := by simpa [Array.getD_eq_getD_getElem?, his] using hun
        rw [Array.toList_setIfInBounds, List.count_set (by simpa using his)]
        simp [hli, hc]
      have hop' : wpOp P (ops.extract 0 n) (Exit.then (fun a' w' => wpList P ops Q (ops.toList.drop n) a' w') Q) i (wpAny P md ops Q (f + m) (lh.setIfInBounds i true ++ Array.replicate m false)) a w :=
        wpOp_mono (fun a' w' h' => ih _ a' w' (by simp [hl]) hcount h') hop
      have hi0 := h1 i hin
      unfold wpOp at hop' ⊢
      rw [hhead i hin] at hop'
      have ho : ∃ o, ops[i]? = some o := ⟨ops[i]'(by omega), by simp [show i < ops.size by omega]⟩
      obtain ⟨o, ho⟩ := ho
      rw [ho] at hop' hi0 ⊢
      simp only [Bool.and_eq_true] at hi0 hop' ⊢
      have hwant : Region.wanted o (yielded (ops.extract 0 n) a.tmps) = Region.wanted o (yielded ops a.tmps) := by
        unfold Region.wanted
        cases hg : o.guard with
        | none => rfl
        | some g =>
          obtain ⟨j, b⟩ := g
          have := hi0.2
          rw [hg] at this
          have hj : j < n := by simpa using this
          dsimp only
          unfold yielded
          rw [hhead j hj]
      rw [hwant] at hop'
      rw [wp_then] at hop'
      exact hop'
theorem wp_region_qt {id : Nat} {Q : Exit → Act → World → Prop} {a : Act} {w : World} {l : List Oper} (n : Nat) (hm : P.follows .mixedOrders = true) (hs : splitB .any l.toArray n = true) (hn : n ≤ l.length)
    (hB : Region.lexB .any (l.take n).toArray = true)
    (h : wpQuiet P (l.take n).toArray (fun w' => ∃ p : Regrown, w' = grow (redrawn w p.d) p.os) (fun a' => ∀ w', Below w.heap.size w w' → wpList P l.toArray Q (l.drop n) a' w') (l.take n) a) : (Code.region id l.toArray true).wp P Q a w := by
  refine wp_region_any hm ?_
  have hsz : l.toArray.size = n + (l.length - n) := by simp; omega
  have hext : l.toArray.extract 0 n = (l.take n).toArray := by simp
  simp only [Region.lexB, Bool.and_eq_true] at hB
  have hlen : (l.take n).length = n := by simp; omega
  have h0 := wpAnyQ_lex (P := P) (C := fun w' => ∃ p : Regrown, w' = grow (redrawn w p.d) p.os) (md := .any) hB.1 (l.take n) 0 (Array.replicate n false) a (by simp) (by rw [← hlen]; simpa [hlen] using hB.2) h
  rw [hlen] at h0
  have h1 := wpAny_of_quiet (P := P) (md := .any) (Q' := Exit.then (fun a' w' => wpList P l.toArray Q (l.toArray.toList.drop n) a' w') Q) (fun a' w' hC hq => by
    obtain ⟨p, rfl⟩ := hC
    exact hq _ (below_regrown w p.d p.os)) n (Array.replicate n false) a { w with drawn := w.drawn + 1 } ⟨⟨w.drawn + 1, #[]⟩, by rw [grow_empty]; rfl⟩ h0
  rw [← hext] at h1
  have h2 := any_split (P := P) (md := .any) hsz hs n (Array.replicate n false) a _ (by simp) (by simp) h1
  rw [← hsz] at h2
  have : Array.replicate n false ++ Array.replicate (l.length - n) false = Array.replicate l.toArray.size false := by
    rw [Array.replicate_append_replicate, hsz]
  rw [this] at h2
  exact h2
end
end Go.Proofs.Ytillfbohengpaaa

/-
  SLICES OF THE CALL's OWN, elements of one cell: what they hold, told by a list.
-/
set_option linter.unusedVariables false
set_option linter.unusedSimpArgs false
namespace Go.Proofs.Ytillfbohengpaaa
open Go.RowKit
/-- v has n elements, is nil or lies at the head of a block of the call's own (from base on), and reads as l. -/
def OwnL {α : Type} (enc : α → Value) (E : TypeId) (w : World) (base : Nat) (v : Value) (n : Nat) (l : List α) : Prop := w.ownsRow base E 1 v n (l.map enc)
section
variable {α : Type} {enc : α → Value} {E : TypeId} {w w' : World} {base : Nat} {v : Value} {n : Nat} {l : List α}
theorem OwnL.nil (enc : α → Value) (E : TypeId) (w : World) (base : Nat) : OwnL enc E w base (.slice none 0 0) 0 [] := World.ownsRow_nil w base E 1
theorem OwnL.length (h : OwnL enc E w base v n l) : l.length = n := by have := h.1; simpa using this
theorem OwnL.form (h : OwnL enc E w base v n l) (hl : 0 < n) : ∃ g cap, v = .slice (some ⟨g, 0, none⟩) n cap ∧ base ≤ g ∧ g < w.heap.size := by
  rcases h.2 with ⟨_, h1⟩ | ⟨g, cap, cur, rfl, hb, hg, _⟩
  · omega
  · exact ⟨g, cap, rfl, hb, (Array.getElem?_eq_some_iff.1 hg).1⟩
theorem OwnL.any (h : OwnL enc E w base v n l) : ∃ A cap, v = .slice A n cap ∧ n ≤ cap := by
  rcases h.2 with ⟨rfl, h1⟩ | ⟨g, cap, cur, rfl, hb, hg, hc, _⟩
  · exact ⟨none, 0, by rw [h1], by omega⟩
  · exact ⟨_, cap, rfl, hc⟩
theorem OwnL.len (h : OwnL enc E w base v n l) : n ≤ 9223372036854775807 := by
  rcases h.2 with ⟨rfl, h1⟩ | ⟨g, cap, cur, rfl, hb, hg, hc, hm, _⟩
  · omega
  · simp only [maxLen] at hm; omega
theorem OwnL.cell {g cap : Nat} (h : OwnL enc E w base (.slice (some ⟨g, 0, none⟩) n cap) n l) (j : Nat) (hj : j < l.length) : w.cell? ⟨g, j, none⟩ = some (enc l[j]) := by
  have := World.ownsRow.cellAt h j (by have := h.length; omega)
  rw [this]; simp [hj]
theorem OwnL.free {g cap : Nat} (h : OwnL enc E w base (.slice (some ⟨g, 0, none⟩) n cap) n l) (j : Nat) : w.frozen? ⟨g, j, none⟩ = false := World.ownsRow.frozenAt h j
theorem OwnL.set {g cap : Nat} (h : OwnL enc E w base (.slice (some ⟨g, 0, none⟩) n cap) n l) (j : Nat) (x : α) :
    OwnL enc E (w.setCell ⟨g, j, none⟩ (enc x)) base (.slice (some ⟨g, 0, none⟩) n cap) n (l.set j x) := by
  have := (World.ownsRow.stored h j (enc x)).1
  unfold OwnL
  rw [List.map_set]
  exact this
theorem OwnL.kept (h : OwnL enc E w base v n l) {row : Option Nat} (hg : w.grownBy w' row) (hne : v.ownBlock = none ∨ v.ownBlock ≠ row) : OwnL enc E w' base v n l := World.ownsRow.kept h hg hne
theorem OwnL.below (h : OwnL enc E w base v n l) (hb : Below w.heap.size w w') : OwnL enc E w' base v n l := World.ownsRow.kept h (grown_of_below hb none) (by cases hv : v.ownBlock <;> simp)
theorem OwnL.alloc (h : OwnL enc E w base v n l) (o : Obj) : OwnL enc E (w.alloc o) base v n l := World.ownsRow.alloc h o
theorem OwnL.lt (h : OwnL enc E w base v n l) : ∀ k, v.ownBlock = some k → base ≤ k ∧ k < w.heap.size := World.ownsRow.lt h
theorem OwnL.setOther (h : OwnL enc E w base v n l) (a : Addr) (u : Value) (hne : v.ownBlock ≠ some a.block) : OwnL enc E (w.setCell a u) base v n l := by
  refine World.ownsRow.kept (row := some a.block) h ⟨rfl, rfl, rfl, by simp [World.setCell], fun k hk hk2 => Below.heap_setCell _ _ _ _ (fun e => hk2 (by rw [e]))⟩ (.inr hne)
theorem OwnL.rlg {g cap : Nat} (h : OwnL enc E w base (.slice (some ⟨g, 0, none⟩) n cap) n l) : RL enc w (some ⟨g, 0, none⟩) n l :=
  ⟨h.length, h.len, fun j hj => ⟨g, 0, rfl, (h.lt g rfl).2, by rw [Nat.zero_add]; exact h.cell j hj⟩⟩
theorem OwnL.rl (h : OwnL enc E w base v n l) : ∃ A cap, v = .slice A n cap ∧ RL enc w A n l := by
  by_cases hl : 0 < n
  · obtain ⟨g, cap, rfl, hb, hlt⟩ := h.form hl
    exact ⟨_, cap, rfl, h.rlg⟩
  · obtain ⟨A, cap, rfl, _⟩ := h.any
    have := h.length
    obtain rfl : n = 0 := by omega
    obtain rfl : l = [] := List.eq_nil_of_length_eq_zero this
    exact ⟨A, cap, rfl, RL.nil _ _ _⟩
theorem OwnL.rebase {base' : Nat} (h : OwnL enc E w base v n l) (hb : base' ≤ base) : OwnL enc E w base' v n l := by
  refine ⟨h.1, ?_⟩
  rcases h.2 with h1 | ⟨g, cap, cur, e, hg, r⟩
  · exact .inl h1
  · exact .inr ⟨g, cap, cur, e, Nat.le_trans hb hg, r⟩
/-- A slice that is written out ('[]T{..}'). -/
theorem OwnL.lit (w : World) (cs : Array Value) (l : List α) (n : Nat) (hcs : cs = (l.map enc).toArray) (hn : l.length = n) (hb : base ≤ w.heap.size) (hm : n ≤ maxLen) :
    OwnL enc E (w.alloc (.cells cs E)) base (.slice (some ⟨w.heap.size, 0, none⟩) n n) n l := by
  subst hcs
  have := World.ownsRow_lit (e := E) (size := 1) w (l.map enc).toArray n hb hm (by simp [hn])
  simpa [OwnL] using this
/-- 'append(v, x)'. -/
theorem OwnL.app {P : Program} {t ty : TypeId} {i : TypeInfo} {z : Value} {bytes : Nat} (h : OwnL enc E w base v n l) (hb : base ≤ w.heap.size) (x : α)
    (ht : P.underlying t = some (.slice E)) (hi : P.info? E = some i) (hz : i.zero = some z) (hsize : i.size = 1) (hby : i.bytes = bytes) (hzs : z.cells.size = 1) (h1 : (enc x).oneCell' = true)
    (hlen : (n + 1) * bytes ≤ 140737488355328) (hlen2 : n + 1 ≤ 9223372036854775807) :
    ∃ v' w', (Builtin.append_ #[t, t] ty #[v, .slice (some ⟨w.heap.size, 0, none⟩) 1 1]).run P (w.alloc (.cells #[enc x] E)) = .ok v' w' ∧ OwnL enc E w' base v' (n + 1) (l ++ [x]) ∧ (w.alloc (.cells #[enc x] E)).grownBy w' v.ownBlock ∧
      (v'.ownBlock = v.ownBlock ∨ v'.ownBlock = some (w.heap.size + 1)) := by
  obtain ⟨v', w', h2, h3, h4, h5, h6⟩ := run_append_own_at (P := P) (w.alloc (.cells #[enc x] E)) base t ty E i z 1 bytes ht hi hz hsize hby hzs (by decide) v n (l.map enc) (World.ownsRow.alloc h _)
    ⟨w.heap.size, 0, none⟩ 1 1 [enc x] rfl (cell_one_new _ _ _) (by simpa using h1) (by simp only [maxLen]; omega) hlen (by simp; omega)
  refine ⟨v', w', h2, ?_, h4, ?_⟩
  · unfold OwnL; simpa using h3
  · simpa using h6
/-- 'make([]T, n)'. -/
theorem OwnL.make {P : Program} {t : TypeId} {i : TypeInfo} {z : α} {bytes : Nat} (w : World) (hb : base ≤ w.heap.size) (n : Nat)
    (ht : P.underlying t = some (.slice E)) (hi : P.info? E = some i) (hz : i.zero = some (enc z)) (hsize : i.size = 1) (hby : i.bytes = bytes) (hzc : (enc z).cells = #[enc z]) (hlen : bytes * n ≤ 281474976710656) (hlen2 : n ≤ 9223372036854775807) :
    ∃ w', (Instr.makeSlice t (.int .i64 (n : Int)) (.int .i64 (n : Int))).run P w = .ok (.slice (some ⟨w.heap.size, 0, none⟩) n n) w' ∧ OwnL enc E w' base (.slice (some ⟨w.heap.size, 0, none⟩) n n) n (List.replicate n z) ∧ Below w.heap.size w w' := by
  obtain ⟨w', h1, h2, h3⟩ := run_make_full (P := P) w base t E i (enc z) 1 ht hi hz hsize .i64 .i64 n (by rw [hby]; exact hlen) (by simp only [maxLen]; omega) hb
  refine ⟨w', h1, ?_, ⟨h3.os, h3.tape, h3.output, h3.size, fun k hk => h3.block k hk (by simp)⟩⟩
  unfold OwnL
  rw [hzc, Nat.mul_one, toList_madeCells_one] at h2
  rw [List.map_replicate]
  exact h2
theorem grown_below {w w' : World} (h : w.grownBy w' none) : Below w.heap.size w w' := ⟨h.os, h.tape, h.output, h.size, fun k hk => h.block k hk (by simp)⟩
theorem wpList_app {P : Program} {ops : Array Oper} {rest : List Oper} {o : Oper} {a : Act} {Q : Exit → Act → World → Prop} (hgd : o.guard = none) (s x : Operand) (t : TypeId)
    (ho : o.op = .call { callee := .builtin .append, args := #[s, x], argTypes := #[t, t] }) (X : α) {cs : Array Value} (hcs : cs = #[enc X]) {i : TypeInfo} {z : Value} {bytes : Nat}
    (ht : P.underlying t = some (.slice E)) (hi : P.info? E = some i) (hz : i.zero = some z) (hsize : i.size = 1) (hby : i.bytes = bytes) (hzs : z.cells.size = 1) (h1 : (enc X).oneCell' = true)
    (hs : a.eval s = v) (h : OwnL enc E w base v n l) (hx : a.eval x = .slice (some ⟨w.heap.size, 0, none⟩) 1 1) (hb : base ≤ w.heap.size)
    (hlen : (n + 1) * bytes ≤ 140737488355328) (hlen2 : n + 1 ≤ 9223372036854775807)
    (hK : ∀ v' w', OwnL enc E w' base v' (n + 1) (l ++ [X]) → w.grownBy w' v.ownBlock → (v'.ownBlock = v.ownBlock ∨ v'.ownBlock = some (w.heap.size + 1)) → wpList P ops Q rest (a.put o.dst v') w') :
    wpList P ops Q (o :: rest) a (w.alloc (.cells cs E)) := by
  subst hcs
  refine wpList_append_own_at _ hgd s x t ho base E i z 1 bytes ht hi hz hsize hby hzs (by decide) v n (l.map enc) hs (World.ownsRow.alloc h _) ⟨w.heap.size, 0, none⟩ 1 1 [enc X] hx rfl (cell_one_new _ _ _) (by simpa using h1) (by simp only [maxLen]; omega) hlen (by simp; omega) ?_
  intro v' w' h2 h3 h4 h5
  refine hK v' w' (by unfold OwnL; simpa using h2) ((grown_of_below (below_alloc1 w _) _).trans h3) (by simpa using h5)
theorem wpList_mk {P : Program} {ops : Array Oper} {rest : List Oper} {o : Oper} {a : Act} {Q : Exit → Act → World → Prop} (hg : o.guard = none) (lo co : Operand) (t : TypeId) (hop : o.op = Op.makeSlice t lo co)
    {i : TypeInfo} (z : α) {bytes : Nat} (n : Nat) (ht : P.underlying t = some (.slice E)) (hi : P.info? E = some i) (hz : i.zero = some (enc z)) (hsize : i.size = 1) (hby : i.bytes = bytes) (hzc : (enc z).cells = #[enc z])
    (kl kc : IntKind) (L C : Int) (hl : a.eval lo = .int kl L) (hc : a.eval co = .int kc C) (hL : L = (n : Int)) (hC : C = (n : Int)) (hlen : bytes * n ≤ 281474976710656) (hlen2 : n ≤ 9223372036854775807) (hb : base ≤ w.heap.size)
    (hK : ∀ w', OwnL enc E w' base (.slice (some ⟨w.heap.size, 0, none⟩) n n) n (List.replicate n z) → Below w.heap.size w w' → wpList P ops Q rest (a.put o.dst (.slice (some ⟨w.heap.size, 0, none⟩) n n)) w') :
    wpList P ops Q (o :: rest) a w := by
  refine wpList_make_full w hg lo co t hop base E i (enc z) 1 ht hi hz hsize kl kc L C n hl hc hL hC (by rw [hby]; exact hlen) (by simp only [maxLen]; omega) hb ?_
  intro w' h2 h3
  refine hK w' ?_ (grown_below h3)
  unfold OwnL
  rw [hzc, Nat.mul_one, toList_madeCells_one] at h2
  rw [List.map_replicate]
  exact h2
end
end Go.Proofs.Ytillfbohengpaaa

/-
  MAPS WITH INTEGER KEYS that the call makes: what a block holds is told by a list of pairs, in the order in which they came in.
-/
set_option linter.unusedVariables false
set_option linter.unusedSimpArgs false
namespace Go.Proofs.Ytillfbohengpaaa
open Go.RowKit
def mfind : List (Int × Value) → Int → Nat → Option (Nat × Value)
  | [], _, _ => none
  | p :: m, n, i => if n == p.1 then some (i, p.2) else mfind m n (i + 1)
def mget (m : List (Int × Value)) (n : Int) : Option Value := (mfind m n 0).map (·.2)
def mput (m : List (Int × Value)) (n : Int) (v : Value) : List (Int × Value) :=
  match mfind m n 0 with
  | some (i, _) => m.set i (n, v)
  | none => m ++ [(n, v)]
def MapAt (w : World) (b : Nat) (K : IntKind) (m : List (Int × Value)) : Prop :=
  ∃ es clock, w.heap[b]? = some (.map es clock) ∧ es.toList.map (fun e => (e.key, e.val)) = m.map (fun p => (Value.int K p.1, p.2)) ∧
    (∀ e ∈ es.toList, e.born < clock) ∧ es.toList.Pairwise (fun x y => x.born ≠ y.born)
theorem MapAt.lt {w : World} {b : Nat} {K : IntKind} {m : List (Int × Value)} (h : MapAt w b K m) : b < w.heap.size := by
  obtain ⟨es, c, hb, _⟩ := h
  exact (Array.getElem?_eq_some_iff.1 hb).1
theorem MapAt.kept {w w' : World} {b : Nat} {K : IntKind} {m : List (Int × Value)} (h : MapAt w b K m) (hk : w'.heap[b]? = w.heap[b]?) : MapAt w' b K m := by
  obtain ⟨es, c, hb, r⟩ := h
  exact ⟨es, c, hk.trans hb, r⟩
theorem MapAt.below {w w' : World} {b : Nat} {K : IntKind} {m : List (Int × Value)} (h : MapAt w b K m) (hB : Below w.heap.size w w') : MapAt w' b K m := h.kept (hB.block b h.lt)
theorem MapAt.alloc {w : World} {b : Nat} {K : IntKind} {m : List (Int × Value)} (h : MapAt w b K m) (o : Obj) : MapAt (w.alloc o) b K m := h.kept (Below.heap_alloc w o b h.lt)
theorem MapAt.made (w : World) (K : IntKind) : MapAt (w.alloc (.map #[] 0)) w.heap.size K [] :=
  ⟨#[], 0, heap_alloc_new w _, by simp, by simp, by simp⟩
theorem findNow_int (K K' : IntKind) (n : Int) : ∀ (es : List MapEntry) (m : List (Int × Value)) (i : Nat), es.map (fun e => (e.key, e.val)) = m.map (fun p => (Value.int K p.1, p.2)) →
    Instr.findNow (.int K') (.int K n) es i = some (mfind m n i) := by
  intro es
  induction es with
  | nil =>
    intro m i h
    cases m with
    | nil => rfl
    | cons p m => simp at h
  | cons e es ih =>
    intro m i h
    cases m with
    | nil => simp at h
    | cons p m =>
      simp only [List.map_cons, List.cons.injEq, Prod.mk.injEq] at h
      obtain ⟨⟨hk, hv⟩, ht⟩ := h
      unfold Instr.findNow mfind
      rw [hk]
      simp only [Instr.sameNow, if_true]
      cases hq : (n == p.1) with
      | true => simp [hv]
      | false => simp [ih m (i + 1) ht]
theorem mfind_lt (n : Int) : ∀ (m : List (Int × Value)) (i : Nat) (j : Nat) (v : Value), mfind m n i = some (j, v) → i ≤ j ∧ j < i + m.length := by
  intro m
  induction m with
  | nil => intro i j v h; simp [mfind] at h
  | cons p m ih =>
    intro i j v h
    unfold mfind at h
    split at h
    · simp only [Option.some.injEq, Prod.mk.injEq] at h; obtain ⟨rfl, _⟩ := h; simp
    · have := ih _ _ _ h; simp; omega
section
variable {P : Program} {w : World} {b : Nat} {K : IntKind} {m : List (Int × Value)} {t k e : TypeId}
theorem run_findKey_i (hk : P.underlying k = some (.int K)) (es : Array MapEntry) (he : es.toList.map (fun e => (e.key, e.val)) = m.map (fun p => (Value.int K p.1, p.2))) (n : Int) :
    (Instr.findKey k (.int K n) es.toList).run P w = .ok (mfind m n 0) w := by
  unfold Instr.findKey
  simp only [Sem.run_bind, run_underlying hk, Result.andThen_ok, findNow_int K K n es.toList m 0 he, Sem.run_pure]
theorem run_checkKey_i (hk : P.underlying k = some (.int K)) (em : Bool) (n : Int) : (Instr.checkKey em 10000 k (.int K n)).run P w = .ok () w := by
  show (Instr.checkKey em (9999 + 1) k (.int K n)).run P w = .ok () w
  unfold Instr.checkKey
  simp [Sem.run_bind, run_underlying hk]
theorem run_lookup_i (h : MapAt w b K m) (ht : P.underlying t = some (.map k e)) (hk : P.underlying k = some (.int K)) {z : Value} (hz : ∀ w, (zeroValue e).run P w = .ok z w) (n : Int) :
    (Instr.lookup t (.map (some b)) (.int K n) false).run P w = .ok ((mget m n).getD z) w := by
  obtain ⟨es, c, hb, he, _⟩ := h
  unfold Instr.lookup
  simp only [Sem.run_bind, run_underlying ht, Result.andThen_ok, getObj, Sem.run, hb, Sem.run_pure, run_checkKey_i hk, run_findKey_i hk es he]
  unfold mget
  cases mfind m n 0 with
  | none => simp [Sem.run_bind, hz]
  | some p => simp
theorem run_lookup_ok_i (h : MapAt w b K m) (ht : P.underlying t = some (.map k e)) (hk : P.underlying k = some (.int K)) {z : Value} (hz : ∀ w, (zeroValue e).run P w = .ok z w) (n : Int) :
    (Instr.lookup t (.map (some b)) (.int K n) true).run P w = .ok (.tuple #[(mget m n).getD z, .bool (mget m n).isSome]) w := by
  obtain ⟨es, c, hb, he, _⟩ := h
  unfold Instr.lookup
  simp only [Sem.run_bind, run_underlying ht, Result.andThen_ok, getObj, Sem.run, hb, Sem.run_pure, run_checkKey_i hk, run_findKey_i hk es he]
  unfold mget
  cases mfind m n 0 with
  | none => simp [Sem.run_bind, hz]
  | some p => simp
theorem run_update_i (h : MapAt w b K m) (ht : P.underlying t = some (.map k e)) (hk : P.underlying k = some (.int K)) (n : Int) (v : Value) :
    ∃ w', (Instr.mapUpdate t (.map (some b)) (.int K n) v).run P w = .ok () w' ∧ MapAt w' b K (mput m n v) ∧ w.grownBy w' (some b) := by
  obtain ⟨es, c, hb, he, hc, hp⟩ := h
  have hlt := (Array.getElem?_eq_some_iff.1 hb).1
  have put : ∀ o : Obj, ∀ i, i < w.heap.size → some i ≠ some b → ({ w with heap := w.heap.setIfInBounds b o } : World).heap[i]? = w.heap[i]? := fun o i hi hne => by
    simp only [Array.getElem?_setIfInBounds]
    rw [if_neg (fun e => hne (by rw [e]))]
  have hlen : es.toList.length = m.length := by have := congrArg List.length he; simpa using this
  unfold Instr.mapUpdate mput
  simp only [Sem.run_bind, run_underlying ht, Result.andThen_ok, getObj, Sem.run, hb, Sem.run_pure, run_checkKey_i hk, run_findKey_i hk es he]
  cases hq : mfind m n 0 with
  | none =>
    simp only [setObj, Sem.run, hb]
    refine ⟨_, rfl, ⟨es.push { key := .int K n, val := v, born := c }, c + 1, by simp [Array.getElem?_setIfInBounds, hlt], ?_, ?_, ?_⟩, ⟨rfl, rfl, rfl, by simp, fun i hi hne => put _ i hi hne⟩⟩
    · simp [he]
    · intro x hx
      simp only [Array.toList_push, List.mem_append, List.mem_singleton] at hx
      rcases hx with hx | rfl
      · have := hc x hx; omega
      · simp
    · simp only [Array.toList_push, List.pairwise_append, List.pairwise_cons, List.not_mem_nil, false_imp_iff, implies_true, List.Pairwise.nil, and_self, List.mem_singleton, forall_eq, true_and]
      exact ⟨hp, fun x hx => by have := hc x hx; omega⟩
  | some p =>
    obtain ⟨i, v0⟩ := p
    have hi := (mfind_lt n m 0 i v0 hq).2
    have hik : ∃ x, es[i]? = some x ∧ x.key = .int K n := by
      have hi' : i < es.size := by simp at hlen; omega
      refine ⟨es[i], by simp [hi'], ?_⟩
      have hkey : ∀ (m : List (Int × Value)) (j i : Nat) (v : Value), mfind m n j = some (i, v) → ∃ q, m[i - j]? = some q ∧ q.1 = n := by
        intro m
        induction m with
        | nil => intro j i v h; simp [mfind] at h
        | cons p m ih =>
          intro j i v h
          unfold mfind at h
          split at h
          · rename_i hn
            simp only [Option.some.injEq, Prod.mk.injEq] at h
            obtain ⟨rfl, _⟩ := h
            exact ⟨p, by simp, by simpa using (eq_of_beq hn).symm⟩
          · have hl := mfind_lt n m (j + 1) i v h
            obtain ⟨q, hq, hn⟩ := ih _ _ _ h
            refine ⟨q, ?_, hn⟩
            have : i - j = (i - (j + 1)) + 1 := by omega
            rw [this]; simpa using hq
      obtain ⟨q, hq1, hq2⟩ := hkey m 0 i v0 hq
      have h1 : (es.toList.map (fun e => (e.key, e.val)))[i]? = (m.map (fun p => (Value.int K p.1, p.2)))[i]? := by rw [he]
      simp only [Nat.sub_zero] at hq1
      simp only [List.getElem?_map, hq1, Option.map_some, Array.getElem?_toList] at h1
      have h2 : es[i]? = some es[i] := by simp [hi']
      rw [h2] at h1
      simp only [Option.map_some, Option.some.injEq, Prod.mk.injEq] at h1
      rw [h1.1, hq2]
    obtain ⟨x, hx, hxk⟩ := hik
    simp only [hx, Option.map_some, Option.getD_some, hxk]
    have hstay : (Instr.keyThatStays (.int K n) (.int K n)).run P w = .ok (.int K n) w := by
      unfold Instr.keyThatStays
      have : Instr.sameBits 10000 (.int K n) (.int K n) = true := by
        show Instr.sameBits (9999 + 1) _ _ = true
        unfold Instr.sameBits
        simp
      simp [this]
    simp only [hstay, Sem.run_bind, Result.andThen_ok, setObj, Sem.run, hb]
    have hborn : (es.modify i fun e => { e with key := .int K n, val := v }).toList.map (·.born) = es.toList.map (·.born) := by
      apply List.ext_getElem?
      intro j
      simp only [List.getElem?_map, Array.getElem?_toList, Array.getElem?_modify]
      split
      · cases es[j]? <;> rfl
      · rfl
    refine ⟨_, rfl, ⟨es.modify i fun e => { e with key := .int K n, val := v }, c, by simp [Array.getElem?_setIfInBounds, hlt], ?_, ?_, ?_⟩, ⟨rfl, rfl, rfl, by simp, fun i hi hne => put _ i hi hne⟩⟩
    · apply List.ext_getElem?
      intro j
      have hj := congrArg (fun l => l[j]?) he
      simp only [List.getElem?_map, Array.getElem?_toList] at hj
      simp only [List.getElem?_map, Array.getElem?_toList, Array.getElem?_modify, List.getElem?_set]
      by_cases e : i = j
      · subst e
        simp only [if_true, hx, Option.map_some]
        rw [if_pos (by omega)]
        rfl
      · simp only [e, if_false]
        exact hj
    · intro y hy
      have : y.born ∈ (es.modify i fun e => { e with key := .int K n, val := v }).toList.map (·.born) := List.mem_map.2 ⟨y, hy, rfl⟩
      rw [hborn] at this
      obtain ⟨z, hz, hzb⟩ := List.mem_map.1 this
      rw [← hzb]
      exact hc z hz
    · have h1 : (es.toList.map (·.born)).Pairwise (fun x y => x ≠ y) := List.pairwise_map.2 hp
      rw [← hborn] at h1
      exact List.pairwise_map.1 h1
end
end Go.Proofs.Ytillfbohengpaaa

/-
  WALKS: field.points (a set of bytes, kept in a map).
-/
set_option linter.unusedVariables false
set_option linter.unusedSimpArgs false
namespace Go.Proofs.Ytillfbohengpaaa
open Go.RowKit Gf
def setm (s : List G) : List (Int × Value) := s.map fun x => ((x.toNat : Int), Value.bool true)
theorem G_int_inj (x y : G) : ((x.toNat : Int) == (y.toNat : Int)) = (x == y) := by
  rw [Bool.eq_iff_iff, beq_iff_eq, beq_iff_eq]
  constructor
  · intro h; exact BitVec.eq_of_toNat_eq (by omega)
  · rintro rfl; rfl
theorem mfind_set (x : G) : ∀ (s : List G) (i : Nat), (x ∈ s → ∃ j, mfind (setm s) (x.toNat : Int) i = some (j, .bool true) ∧ i ≤ j ∧ (setm s)[j - i]? = some ((x.toNat : Int), .bool true)) ∧ (x ∉ s → mfind (setm s) (x.toNat : Int) i = none) := by
  intro s
  induction s with
  | nil => intro i; exact ⟨fun h => by simp at h, fun _ => rfl⟩
  | cons y s ih =>
    intro i
    simp only [setm, List.map_cons, mfind, G_int_inj]
    by_cases e : x = y
    · subst e
      simp only [beq_self_eq_true, if_true]
      exact ⟨fun _ => ⟨i, rfl, Nat.le_refl _, by simp⟩, fun h => by simp at h⟩
    · have : (x == y) = false := by simpa using e
      simp only [this, Bool.false_eq_true, if_false, List.mem_cons, e, false_or]
      refine ⟨fun h => ?_, fun h => (ih (i + 1)).2 h⟩
      obtain ⟨j, h1, h2, h3⟩ := (ih (i + 1)).1 h
      refine ⟨j, h1, by omega, ?_⟩
      have : j - i = (j - (i + 1)) + 1 := by omega
      rw [this]; simpa [setm] using h3
theorem mget_set (x : G) (s : List G) : (mget (setm s) (x.toNat : Int)).getD (.bool false) = .bool (decide (x ∈ s)) := by
  unfold mget
  by_cases h : x ∈ s
  · obtain ⟨j, h1, _⟩ := (mfind_set x s 0).1 h
    simp [h1, h]
  · simp [(mfind_set x s 0).2 h, h]
theorem mput_set (x : G) (s : List G) : mput (setm s) (x.toNat : Int) (.bool true) = setm (if x ∈ s then s else s ++ [x]) := by
  unfold mput
  by_cases h : x ∈ s
  · obtain ⟨j, h1, h2, h3⟩ := (mfind_set x s 0).1 h
    simp only [h1, h, if_true]
    simp only [Nat.sub_zero] at h3
    apply List.ext_getElem?
    intro i
    rw [List.getElem?_set]
    split
    · rename_i e; subst e; rw [h3]; have := (List.getElem?_eq_some_iff.1 h3).1; simp [this]
    · rfl
  · simp only [(mfind_set x s 0).2 h, h, if_false]
    simp [setm]
def memB (x : G) (s : List G) : Bool := decide (x ∈ s)
def addS (x : G) (s : List G) : List G := if x ∈ s then s else s ++ [x]
theorem again_u (x : G) (s : List G) (C b : Nat) (w : World) (hc : w.cell? ⟨C, 0, none⟩ = some (.map (some b))) (hm : MapAt w b .u8 (setm s)) :
    Calls Try.prog 55 #[gv x, .pointer (some ⟨C, 0, none⟩)] w fun e w' => e = .returned (.bool (memB x s)) ∧ MapAt w' b .u8 (setm (addS x s)) ∧ w.grownBy w' (some b) := by
  have hlk := run_lookup_i (P := Try.prog) (t := 70) (e := 4) hm Try.underlying70 Try.underlying5 (z := .bool false) (fun w => by kernel_rfl) (x.toNat : Int)
  rw [mget_set] at hlk
  change _ = Result.ok (Value.bool (memB x s)) w at hlk
  obtain ⟨w1, hup, hm1, hg1⟩ := run_update_i (P := Try.prog) (t := 70) (e := 4) hm Try.underlying70 Try.underlying5 (x.toNat : Int) (.bool true)
  rw [mput_set] at hm1
  change MapAt w1 b .u8 (setm (addS x s)) at hm1
  go_enter Try.func55, Try.ntmps55
  go_wp2_with fail
  go_ret
  exact ⟨rfl, hm1, hg1⟩
set_option maxHeartbeats 1000000 in
theorem points_u (A B : Option Addr) (n m c d : Nat) (xs : List G) (w : World) (hx : RL gv w A n xs) :
    Calls Try.prog 38 #[.slice A n c, .slice B m d] w fun e w' => e = .returned (.bool (decide (xs.Nodup ∧ n = m))) ∧ Below w.heap.size w w' := by
  have hmm := @run_makeMap Try.prog
  have hlen := hx.2.1
  obtain rfl := hx.1
  have HX := Lib.hid hx; clear hx
  go_enter Try.func38, Try.ntmps38
  go_wp2_with fail
  clear hmm
  generalize hW0 : (w.alloc (Obj.map #[] 0)).alloc _ = W0
  have hB0 : Below w.heap.size w W0 := by rw [← hW0]; exact balloc (below_alloc1 _ _) _
  have hM0 : MapAt W0 w.heap.size .u8 (setm []) := by rw [← hW0]; exact (MapAt.made w .u8).alloc _
  have hc0 : W0.cell? ⟨w.heap.size + 1, 0, none⟩ = some (.map (some w.heap.size)) := by rw [← hW0, cell_new _ _ _ _ _ _ (by simp)]; rfl
  clear hW0
  go_loopw [8, 13] (fun _ si wr => ∃ k : Nat, k ≤ xs.length ∧ si = .int .i64 k ∧ (xs.take k).Nodup ∧ MapAt wr w.heap.size .u8 (setm (xs.take k)) ∧ wr.cell? ⟨w.heap.size + 1, 0, none⟩ = some (.map (some w.heap.size)) ∧ Below w.heap.size w wr) (fun _ si _ => xs.length - (intOf si).toNat)
  case atStart => exact ⟨0, by omega, rfl, by simp, hM0, hc0, hB0⟩
  case round =>
    obtain ⟨k, hk, rfl, hnd, hM, hc, hB⟩ := hrel
    by_cases hlt : k < xs.length
    · obtain ⟨b, o, rfl, hb, hcb⟩ := HX.out.2.2 k hlt
      have hcw := (hB.cell (p := ⟨b, o + k, none⟩) hb).trans hcb
      have hND := Lib.hid hnd; clear hnd hM0 hc0 hB0 hcb
      cases hmem : memB xs[k] (xs.take k) with
      | true =>
        have HM := Lib.hid hmem; clear hmem
        go_wp2_with fail
        refine (again_u _ _ _ _ _ hc hM).mono ?_
        rintro e w2 ⟨rfl, _, hg⟩
        rw [HM.out]
        go_wp2_with fail
        go_ret
        have hno : decide (xs.Nodup ∧ xs.length = m) = false := by
          have hm : xs[k] ∈ xs.take k := of_decide_eq_true HM.out
          refine decide_eq_false fun h => ?_
          have hd := h.1
          rw [← List.take_append_drop k xs, List.nodup_append] at hd
          have hmd : xs[k] ∈ xs.drop k := by rw [List.drop_eq_getElem_cons hlt]; exact List.mem_cons_self
          exact hd.2.2 _ hm _ hmd rfl
        rw [hno]
        exact ⟨rfl, hB.grown hg hB.size (fun j e => by cases e; exact Nat.le_refl _)⟩
      | false =>
        have HM := Lib.hid hmem; clear hmem
        go_wp2_with fail
        refine (again_u _ _ _ _ _ hc hM).mono ?_
        rintro e w2 ⟨rfl, hM2, hg⟩
        rw [HM.out]
        have hnot : xs[k] ∉ xs.take k := of_decide_eq_false HM.out
        have hadd : addS xs[k] (xs.take k) = xs.take (k + 1) := by
          unfold addS
          rw [if_neg hnot, List.take_succ_eq_append_getElem hlt]
        rw [hadd] at hM2
        have hnd2 : (xs.take (k + 1)).Nodup := by
          rw [List.take_succ_eq_append_getElem hlt, List.nodup_append]
          exact ⟨hND.out, by simp, fun a ha b hb e => by simp at hb; subst hb; subst e; exact hnot ha⟩
        have hc2 := hg.cell hc (by simp)
        clear hadd hnot
        have HN := Lib.hid hnd2; clear hnd2
        go_wp2_with fail
        go_roundw
        case rel => exact ⟨k + 1, by omega, by go_num, HN.out, hM2, hc2, hB.grown hg hB.size (fun j e => by cases e; exact Nat.le_refl _)⟩
        case measure => simp [intOf]; omega
    · obtain rfl : k = xs.length := by omega
      have HN := Lib.hid hnd; clear hnd
      go_wp2_with fail
      go_ret
      have hn : xs.Nodup := by have := HN.out; rwa [List.take_length] at this
      refine ⟨?_, hB⟩
      simp only [hn, true_and]
      rw [nat_beq]
      rfl
end Go.Proofs.Ytillfbohengpaaa

/-
  A RANGE OVER A FUNCTION THAT YIELDS WITHOUT AN END, or as long as its caller lets it: the iterator's contract may use what the caller's invariant says (Bd), and each element may depend on those before it (Nx).
-/
set_option linter.unusedVariables false
set_option linter.unusedSimpArgs false
namespace Go.Proofs.Ytillfbohengpaaa
open Go.RowKit
def SeqJ {α : Type} (F : Fence) (n : Nat) (P : Program) (gf : Nat) (lb : Array Value) (encs : α → Array Value) (Bd : List α → World → Prop) (Nx : List α → α → Prop) (S Sp : List α → Prop) (w : World) : Prop :=
  ∀ (l : Nat) (J Jx : List α → World → Prop) (W : World), Below w.heap.size w W → AbidesFrom W.heap.size J → (∀ pre W1, J pre W1 → Bd pre W1) →
    (∀ pre x W1, J pre W1 → Nx pre x → YieldAt F (n - 1) P l (encs x) W1 fun e W' => (e = .returned (.bool true) ∧ J (pre ++ [x]) W') ∨ (e = .returned (.bool false) ∧ Jx (pre ++ [x]) W')) →
    J [] W →
    CallsIn F n P gf (#[.func (.yield l) #[] #[]] ++ lb) W fun e W' => (∃ v, e = .returned v) ∧ ((∃ xs, S xs ∧ J xs W') ∨ (∃ pre, Sp pre ∧ Jx pre W'))
/-- How the body of a round may be left. -/
def postJ {α : Type} (I : List α → World → Prop) (Ix : Code → List α → World → Prop) (xs : List α) (W : World) : Exit → Act → World → Prop
  | .normal, _, W' => KeepsOthers W W' ∧ I xs W'
  | .ret, _, W' => KeepsOthers W W' ∧ Ix .ret xs W'
  | .exit id, _, W' => KeepsOthers W W' ∧ Ix (.exit id) xs W'
  | .goto t, _, W' => KeepsOthers W W' ∧ Ix (.goto t) xs W'
  | .panic _, _, _ => False
  | .outgrown, _, _ => False
variable {F : Fence} {n : Nat} {P : Program}
theorem rangeFuncJ {α : Type} {g : Operand} {ps : Array Tmp} {assign body : Code} {Q : Exit → Act → World → Prop} {a : Act} {w : World}
    (hro : F.round = none) (h1 : 1 ≤ n) {gf : Nat} {lb : Array Value} (hg : a.eval g = .func (.func gf) #[] lb) (hFg : F.fn gf) (eg : ∀ args w, (callFunc gf args).run P w = .ok (.enter gf args) w)
    {encs : α → Array Value} {Bd : List α → World → Prop} {Nx : List α → α → Prop} {S Sp : List α → Prop} (hseq : SeqJ F (n - 1) P gf lb encs Bd Nx S Sp w) (hps : ∀ x, (encs x).size = ps.size)
    (I : List α → World → Prop) (Ix : Code → List α → World → Prop) (hI : OwnFrom w.heap.size I) (hIx : ∀ c, OwnFrom w.heap.size (Ix c)) (hBd : ∀ pre W, I pre W → Bd pre W) (h0 : I [] w) (a₁ : α → Act)
    (hassign : ∀ (l : Nat) (x : α) (W : World) (K : Act → World → Prop), K (a₁ x) W →
      assign.wpIn (F.inRound l) (n - 1 - 1) P (Exit.then K (fun _ _ _ => False)) { tmps := (ps.zip (encs x)).foldl (fun t (p, v) => t.setIfInBounds p v) a.tmps, defers := [] } W)
    (hbody : ∀ (l : Nat) (pre : List α) (x : α) (W : World), I pre W → Nx pre x → body.wpIn (F.inRound l) (n - 1 - 1) P (postJ I Ix (pre ++ [x]) W) (a₁ x) W)
    (hdone : ∀ (D : Nat) (xs : List α) (W : World), w.heap.size ≤ D → S xs → I xs W → W.heap[D]? = some (.deferred (some [])) → Q .normal { a with defers := { target := .collected D, args := #[] } :: a.defers } W)
    (hstop : ∀ (D : Nat) (c : Code) (pre : List α) (W : World), w.heap.size ≤ D → Sp pre → Ix c pre W → W.heap[D]? = some (.deferred (some [])) → c.wpIn F n P Q { a with defers := { target := .collected D, args := #[] } :: a.defers } W) :
    (Code.rangeFunc g ps assign body).wpIn F n P Q a w := by
  refine wpIn_rangeFunc ?_
  intro fn hfn
  rw [hro]
  obtain ⟨rec, hrec⟩ : ∃ rec : LoopState → Option Code → Loop, rec = fun st pe => { state := st, pending := pe, fn, tmps := a.tmps, params := ps, assign, body, defers := w.heap.size } := ⟨_, rfl⟩
  obtain ⟨W1, hW1⟩ : ∃ W1, (w.alloc (.deferred (some []))).alloc (.loop (rec .ready none)) = W1 := ⟨_, rfl⟩
  have hL1 : W1.heap[w.heap.size + 1]? = some (.loop (rec .ready none)) := by
    rw [← hW1]; have := World.alloc_heap_new (w.alloc (.deferred (some []))) (.loop (rec .ready none)); rwa [World.size_alloc] at this
  have hK1 : W1.heap[w.heap.size]? = some (.deferred (some [])) := by
    rw [← hW1]; exact (Below.heap_alloc _ _ _ (by simp)).trans (World.alloc_heap_new w _)
  have hI1 : I [] W1 := by rw [← hW1]; exact hI.alloc _ (hI.alloc _ h0)
  have hb1 : Below w.heap.size w W1 := by
    rw [← hW1]; exact ((Below.refl _ w).alloc (Nat.le_refl _) _).alloc (by simp) _
  refine ⟨w.heap.size + 1, [{ target := .collected w.heap.size, args := #[] }], W1, { target := .fn (.func gf) lb, args := #[.func (.yield (w.heap.size + 1)) #[] #[]] }, W1, gf,
    #[.func (.yield (w.heap.size + 1)) #[] #[]] ++ lb, W1, ?_, ?_, ?_, ?_, fun _ => h1, ?_⟩
  · rw [← hW1, hrec]; exact run_enterLoop_outer _ _ _ _ _
  · simp only [resolve, hg]
    simp [go_sem]
  · intro f' hf'; simp [Target.leads] at hf'; subst hf'; exact hFg
  · simp [invoke, go_sem, eg]
  · have hnw : ∀ {A B : World} {row : Option Nat}, (∀ r, row = some r → W1.heap.size ≤ r ∧ ∃ o : Obj, A.heap[r]? = some o ∧ o.isWalk = true) → (∀ r, row = some r → w.heap.size ≤ r ∧ ∃ o : Obj, A.heap[r]? = some o ∧ o.isCells = false) :=
      fun hr r e => by obtain ⟨hB, o, ho, hw⟩ := hr r e; exact ⟨by rw [← hW1] at hB; simp at hB; omega, o, ho, Obj.not_cells_of_walk hw⟩
    refine (hseq (w.heap.size + 1)
      (fun pre W => I pre W ∧ W.heap[w.heap.size + 1]? = some (.loop (rec .ready none)) ∧ W.heap[w.heap.size]? = some (.deferred (some [])))
      (fun pre W => ∃ c, Ix c pre W ∧ W.heap[w.heap.size + 1]? = some (.loop (rec .done (some c))) ∧ W.heap[w.heap.size]? = some (.deferred (some [])))
      W1 hb1
      (fun s A B row hs hg' hr => ⟨hI s A B row hs.1 hg' (hnw (B := B) hr), (grownBy_keeps hg' (fun r e => (hr r e).2) hs.2.1 rfl).trans hs.2.1, (grownBy_keeps hg' (fun r e => (hr r e).2) hs.2.2 rfl).trans hs.2.2⟩)
      (fun pre A hs => hBd pre A hs.1)
      ?_ ⟨hI1, hL1, hK1⟩).mono ?_
    · rintro pre x W ⟨hi, hl, hk⟩ hnx
      have hlt : w.heap.size + 1 < W.heap.size := (Array.getElem?_eq_some_iff.1 hl).1
      have hy := run_yield (P := P) (args := encs x) hl (by rw [hrec]; exact hps x)
      rw [hrec] at hy
      refine ⟨fn, _, assign, body, hy, roundIn_of_wpIn hfn (hassign _ x W _ ⟨_, run_beginRound hl (by rw [hrec]), ?_⟩)⟩
      have hl2 : (W.putObj (w.heap.size + 1) (.loop { rec .ready none with state := .busy })).heap[w.heap.size + 1]? = some (.loop { rec .ready none with state := .busy }) := World.putObj_heap_same hlt
      have hk2 : (W.putObj (w.heap.size + 1) (.loop { rec .ready none with state := .busy })).heap[w.heap.size]? = some (.deferred (some [])) := (World.putObj_heap_other (by omega)).trans hk
      refine wpIn_mono (hbody _ pre x _ (hI.putObj _ hi (by omega) hl rfl) hnx) ?_
      have fin : ∀ (jump : Option Code) (W3 : World), KeepsOthers (W.putObj (w.heap.size + 1) (.loop { rec .ready none with state := .busy })) W3 →
          (Instr.endRound (w.heap.size + 1) jump).run P W3 = .ok (.bool jump.isNone) (W3.putObj (w.heap.size + 1) (.loop (rec (if jump.isNone then .ready else .done) jump))) ∧
          W3.heap[w.heap.size + 1]? = some (.loop { rec .ready none with state := .busy }) ∧
          (W3.putObj (w.heap.size + 1) (.loop (rec (if jump.isNone then .ready else .done) jump))).heap[w.heap.size + 1]? = some (.loop (rec (if jump.isNone then .ready else .done) jump)) ∧
          (W3.putObj (w.heap.size + 1) (.loop (rec (if jump.isNone then .ready else .done) jump))).heap[w.heap.size]? = some (.deferred (some [])) := fun jump W3 hk3 => by
        have hl3 := hk3.same _ _ hl2 rfl
        have := run_endRound (P := P) jump hl3
        rw [hrec] at this ⊢
        exact ⟨this, by rw [hrec] at hl3; exact hl3, World.putObj_heap_same (Array.getElem?_eq_some_iff.1 hl3).1, (World.putObj_heap_other (by omega)).trans (hk3.same _ _ hk2 rfl)⟩
      rintro e a3 W3 hp
      cases e with
      | normal =>
        obtain ⟨hk3, hi3⟩ := hp
        obtain ⟨hr, hl3, hl4, hk4⟩ := fin none W3 hk3
        exact ⟨_, _, hr, .inl ⟨rfl, hI.putObj _ hi3 (by omega) hl3 rfl, hl4, hk4⟩⟩
      | ret =>
        obtain ⟨hk3, hi3⟩ := hp
        obtain ⟨hr, hl3, hl4, hk4⟩ := fin (some .ret) W3 hk3
        exact ⟨_, _, hr, .inr ⟨rfl, .ret, (hIx _).putObj _ hi3 (by omega) hl3 rfl, hl4, hk4⟩⟩
      | exit id =>
        obtain ⟨hk3, hi3⟩ := hp
        obtain ⟨hr, hl3, hl4, hk4⟩ := fin (some (.exit id)) W3 hk3
        exact ⟨_, _, hr, .inr ⟨rfl, .exit id, (hIx _).putObj _ hi3 (by omega) hl3 rfl, hl4, hk4⟩⟩
      | goto t =>
        obtain ⟨hk3, hi3⟩ := hp
        obtain ⟨hr, hl3, hl4, hk4⟩ := fin (some (.goto t)) W3 hk3
        exact ⟨_, _, hr, .inr ⟨rfl, .goto t, (hIx _).putObj _ hi3 (by omega) hl3 rfl, hl4, hk4⟩⟩
      | panic ch => exact hp.elim
      | outgrown => exact hp.elim
    · rintro e W2 ⟨⟨v, rfl⟩, (⟨xs, hS, hi, hl, hk⟩ | ⟨pre, hSp, c, hi, hl, hk⟩)⟩
      · exact ⟨none, _, by have := run_endLoop (P := P) hl (by rw [hrec]; simp); rw [hrec] at this; exact this, hdone _ xs _ (Nat.le_refl _) hS (hI.putObj _ hi (by omega) hl rfl) ((World.putObj_heap_other (by omega)).trans hk)⟩
      · exact ⟨some c, _, by have := run_endLoop (P := P) hl (by rw [hrec]; simp); rw [hrec] at this; exact this, hstop _ c pre _ (Nat.le_refl _) hSp ((hIx c).putObj _ hi (by omega) hl rfl) ((World.putObj_heap_other (by omega)).trans hk)⟩
theorem keepsOthers_below {W W' : World} (h : Below W.heap.size W W') : KeepsOthers W W' :=
  ⟨h.size, fun k o hk _ => (h.block k (Array.getElem?_eq_some_iff.1 hk).1).trans hk⟩
end Go.Proofs.Ytillfbohengpaaa

/-
  WALKS: field.twice, field.Mul, field.Inv.
-/
set_option linter.unusedVariables false
set_option linter.unusedSimpArgs false
namespace Go.Proofs.Ytillfbohengpaaa
open Go.RowKit Gf
theorem twice_u (x : G) (w : World) : Calls Try.prog 37 #[.int .u8 (x.toNat : Int)] w fun e w' => e = .returned (.int .u8 ((tw x).toNat : Int)) ∧ w = w' := by
  by_cases h : 128 ≤ x.toNat
  · have H := Lib.hid (tw_hi x h)
    have h' : (128 : Int) ≤ (x.toNat : Int) := by omega
    clear h
    have hx := G_le x
    generalize hn : (x.toNat : Int) = n at *
    clear hn
    go_enter Try.func37, Try.ntmps37
    go_wp2
    go_ret
    exact ⟨by rw [H.out]; rfl, rfl⟩
  · have h2 : (x.toNat : Int) * 2 = ((tw x).toNat : Int) := by have := tw_lo x h; have := G_le x; omega
    have H := Lib.hid h2
    clear h2
    have h' : (x.toNat : Int) < 128 := by omega
    clear h
    have hx' := G_ge x
    generalize hn : (x.toNat : Int) = n at *
    clear hn
    go_enter Try.func37, Try.ntmps37
    go_wp2
    go_ret
    exact ⟨by rw [H.out]; rfl, rfl⟩
def tab (k : Nat) (a : G) : Array Value := ((List.range 8).map fun j => Value.int .u8 (if j < k then ((pw j a).toNat : Int) else 0)).toArray
theorem tab_get (k : Nat) (a : G) (h : k < 8) : ∃ v, (tab k a)[k]? = some v := by
  simp [tab, h]
theorem tab_set (k : Nat) (a : G) : (tab k a).setIfInBounds k (.int .u8 ((pw k a).toNat : Int)) = tab (k+1) a := by
  apply Array.ext'
  simp only [tab, Array.toList_setIfInBounds]
  apply List.ext_getElem
  · simp
  · intro i h1 h2
    simp [List.getElem_set]
    by_cases e : k = i
    · subst e; simp
    · simp [e]
      have : i < k ↔ i < k + 1 := by omega
      simp [this]
theorem tab_index0 (a : G) (w : World) : (Instr.index 56 (.agg (tab 8 a)) (.int .i64 0)).run Try.prog w = .ok (.int .u8 ((pw 0 a).toNat : Int)) w := by kernel_rfl
theorem tab_index1 (a : G) (w : World) : (Instr.index 56 (.agg (tab 8 a)) (.int .i64 1)).run Try.prog w = .ok (.int .u8 ((pw 1 a).toNat : Int)) w := by kernel_rfl
theorem tab_index2 (a : G) (w : World) : (Instr.index 56 (.agg (tab 8 a)) (.int .i64 2)).run Try.prog w = .ok (.int .u8 ((pw 2 a).toNat : Int)) w := by kernel_rfl
theorem tab_index3 (a : G) (w : World) : (Instr.index 56 (.agg (tab 8 a)) (.int .i64 3)).run Try.prog w = .ok (.int .u8 ((pw 3 a).toNat : Int)) w := by kernel_rfl
theorem tab_index4 (a : G) (w : World) : (Instr.index 56 (.agg (tab 8 a)) (.int .i64 4)).run Try.prog w = .ok (.int .u8 ((pw 4 a).toNat : Int)) w := by kernel_rfl
theorem tab_index5 (a : G) (w : World) : (Instr.index 56 (.agg (tab 8 a)) (.int .i64 5)).run Try.prog w = .ok (.int .u8 ((pw 5 a).toNat : Int)) w := by kernel_rfl
theorem tab_index6 (a : G) (w : World) : (Instr.index 56 (.agg (tab 8 a)) (.int .i64 6)).run Try.prog w = .ok (.int .u8 ((pw 6 a).toNat : Int)) w := by kernel_rfl
theorem tab_index7 (a : G) (w : World) : (Instr.index 56 (.agg (tab 8 a)) (.int .i64 7)).run Try.prog w = .ok (.int .u8 ((pw 7 a).toNat : Int)) w := by kernel_rfl
theorem tab_index (a : G) (k : Nat) (h : k < 8) (w : World) : (Instr.index 56 (.agg (tab 8 a)) (.int .i64 k)).run Try.prog w = .ok (.int .u8 ((pw k a).toNat : Int)) w := by
  have hk : k = 0 ∨ k = 1 ∨ k = 2 ∨ k = 3 ∨ k = 4 ∨ k = 5 ∨ k = 6 ∨ k = 7 := by omega
  rcases hk with rfl | rfl | rfl | rfl | rfl | rfl | rfl | rfl
  · exact tab_index0 a w
  · exact tab_index1 a w
  · exact tab_index2 a w
  · exact tab_index3 a w
  · exact tab_index4 a w
  · exact tab_index5 a w
  · exact tab_index6 a w
  · exact tab_index7 a w
theorem tab_lit (a : G) : tab 8 a = #[.int .u8 ((pw 0 a).toNat : Int), .int .u8 ((pw 1 a).toNat : Int), .int .u8 ((pw 2 a).toNat : Int), .int .u8 ((pw 3 a).toNat : Int), .int .u8 ((pw 4 a).toNat : Int), .int .u8 ((pw 5 a).toNat : Int), .int .u8 ((pw 6 a).toNat : Int), .int .u8 ((pw 7 a).toNat : Int)] := rfl
set_option maxHeartbeats 400000 in
theorem mul_u (a b : G) (w : World) :
    Calls Try.prog 18 #[.int .u8 (a.toNat : Int), .int .u8 (b.toNat : Int)] w fun e w' => e = .returned (.int .u8 ((mul a b).toNat : Int)) ∧ Below w.heap.size w w' := by
  go_enter Try.func18, Try.ntmps18
  go_wp2_with fail
  go_loopw [0, 6, 9, 16] (fun sa _ si _ wr => ∃ (k : Nat), k ≤ 8 ∧ si = .int .i64 k ∧ sa = .int .u8 ((pw k a).toNat : Int) ∧ wr = w.alloc (.cells (tab k a) 56)) (fun _ _ si _ _ => 8 - (intOf si).toNat)
  case atStart => exact ⟨0, by omega, rfl, rfl, rfl⟩
  case round =>
    obtain ⟨k, hk, rfl, rfl, rfl⟩ := hrel
    by_cases hlt : k < 8
    · obtain ⟨v, hv⟩ := tab_get k a hlt
      go_wp2_with (go_at_call 37; refine (twice_u _ _).mono ?_; rintro e w' ⟨rfl, rfl⟩)
      go_roundw
      case rel => exact ⟨k+1, by omega, by go_num, rfl, by rw [← tab_set k a]⟩
      case measure => simp [intOf]; omega
    · obtain rfl : k = 8 := by omega
      rw [tab_lit]
      go_wp2_with fail
      rw [← tab_lit]
      go_loop [4, 7, 8, 19] (fun sc _ _ si => ∃ (k : Nat), k ≤ 8 ∧ si = .int .i64 k ∧ sc = .int .u8 ((gpart a b k).toNat : Int)) (fun _ _ _ si => 8 - (intOf si).toNat)
      case atStart => exact ⟨0, by omega, rfl, rfl⟩
      case round =>
        obtain ⟨k, hk, rfl, rfl⟩ := hrel
        by_cases hlt : k < 8
        · have hix := tab_index a k hlt
          have hbit := bits_and_bit b k hlt
          have e8 : (min (k : Int).toNat 8) = k := by simp; omega
          rw [e8] at hbit
          have hp : gpart a b (k + 1) = if b.getLsbD k then gpart a b k ^^^ pw k a else gpart a b k := rfl
          have HP := Lib.hid hp; clear hp e8
          go_wp2_with fail
          all_goals
            go_round
            case rel => exact ⟨k + 1, by omega, by go_num, by rw [HP.out]; first | (rw [if_pos (show b.getLsbD k = true by assumption), bits_xor_g]) | (rw [if_neg (by rw [show b.getLsbD k = false by assumption]; decide)])⟩
            case measure => simp [intOf]; omega
        · obtain rfl : k = 8 := by omega
          go_wp2_with fail
          go_ret
          exact ⟨rfl, below_alloc1 _ _⟩
/-- What Inv returns: the inverse, the error. -/
def invR (a : G) : G × Int := if a = 0#8 then (0#8, 1) else (inv a, 0)
theorem inv_u (a : G) (w : World) :
    Calls Try.prog 16 #[.int .u8 (a.toNat : Int)] w fun e w' => e = .returned (.tuple #[.int .u8 ((invR a).1.toNat : Int), .int .i64 (invR a).2]) ∧ Below w.heap.size w w' := by
  by_cases h : a = 0#8
  · subst h
    go_enter Try.func16, Try.ntmps16
    go_wp2_with fail
    go_ret2
    exact ⟨rfl, Below.refl _ _⟩
  · have hr : invR a = (inv a, 0) := by simp [invR, h]
    have HR := Lib.hid hr; clear hr
    have hz : ((a.toNat : Int) == 0) = false := by
      rw [beq_eq_false_iff_ne]
      intro e
      exact h (BitVec.eq_of_toNat_eq (by simpa using e))
    clear h
    go_enter Try.func16, Try.ntmps16
    go_wp2_with fail
    clear hz
    go_loopw [0, 2, 6] (fun sa sb si wr => ∃ (k : Nat), k ≤ 7 ∧ si = .int .i64 k ∧ sa = .int .u8 ((invTo a k).1.toNat : Int) ∧ sb = .int .u8 ((invTo a k).2.toNat : Int) ∧ Below w.heap.size w wr) (fun _ _ si _ => 7 - (intOf si).toNat)
    case atStart => exact ⟨0, by omega, rfl, rfl, rfl, Below.refl _ _⟩
    case round =>
      obtain ⟨k, hk, rfl, rfl, rfl, hB⟩ := hrel
      by_cases hlt : k < 7
      · go_wp2_with fail
        refine (mul_u _ _ _).mono ?_
        rintro e w1 ⟨rfl, hb1⟩
        go_wp2_with fail
        refine (mul_u _ _ _).mono ?_
        rintro e w2 ⟨rfl, hb2⟩
        go_wp2_with fail
        go_roundw
        case rel => exact ⟨k + 1, by omega, by go_num, rfl, rfl, bthen (bthen hB hb1) hb2⟩
        case measure => simp [intOf]; omega
      · obtain rfl : k = 7 := by omega
        go_wp2_with fail
        go_ret2
        exact ⟨by rw [HR.out]; rfl, hB⟩
end Go.Proofs.Ytillfbohengpaaa

/-
  WALKS: field.powers, its iterator, and field.Eval.
-/
set_option linter.unusedVariables false
set_option linter.unusedSimpArgs false
namespace Go.Proofs.Ytillfbohengpaaa
open Go.RowKit Go.Shelf Gf
attribute [local go_sem] Oper.semAt_some
theorem powers_u (a : G) (w : World) : Calls Try.prog 39 #[.int .u8 (a.toNat : Int)] w fun e w' =>
    e = .returned (.func (.func 56) #[] #[.pointer (some ⟨w.heap.size, 0, none⟩)]) ∧ w' = w.alloc (.cells #[.int .u8 (a.toNat : Int)] 5) := by
  go_enter Try.func39, Try.ntmps39
  go_wp2_with fail
  go_ret
  exact ⟨rfl, rfl⟩
set_option maxHeartbeats 1000000 in
theorem powers_seq (a : G) (B N n : Nat) (w : World) :
    SeqJ Fence.wide n Try.prog 56 #[.pointer (some ⟨B, 0, none⟩)] (fun x : G => #[.int .u8 (x.toNat : Int)])
      (fun pre W => W.cell? ⟨B, 0, none⟩ = some (.int .u8 (a.toNat : Int)) ∧ pre.length ≤ N) (fun pre x => x = pws a pre.length) (fun _ => False) (fun _ => True) w := by
  intro l J Jx W hW hJ hBd hY h0
  refine callsIn_of_wp Try.func56 rfl trivial ?_ rfl
  simp only [Try.ntmps56, List.size_toArray, List.length_cons, List.length_nil, Nat.reduceAdd, Nat.reduceSub, Array.replicate_succ, Array.replicate_zero, List.push_toArray, List.append_toArray, List.nil_append, List.cons_append]
  have hro : Fence.wide.round = none := rfl
  gi_wp2
  gi_loopw [3] (fun p wr => ∃ pre : List G, p = .int .u8 ((pws a pre.length).toNat : Int) ∧ J pre wr)
    (fun p wr => leastOf (fun m => ∃ pre : List G, pre.length + m = N ∧ p = .int .u8 ((pws a pre.length).toNat : Int) ∧ J pre wr))
  case atStart => exact ⟨[], rfl, h0⟩
  case round =>
    obtain ⟨pre0, rfl, hJ0⟩ := hrel
    have hp0 : ∃ m, (∃ pre : List G, pre.length + m = N ∧ Value.int .u8 ((pws a pre0.length).toNat : Int) = .int .u8 ((pws a pre.length).toNat : Int) ∧ J pre wr) := ⟨N - pre0.length, pre0, by have := (hBd _ _ hJ0).2; omega, rfl, hJ0⟩
    obtain ⟨⟨pre, hlen, hpe, hJp⟩, _⟩ := leastOf_spec hp0
    have hq : pws a pre0.length = pws a pre.length := by
      simp only [Value.int.injEq, true_and] at hpe
      exact BitVec.eq_of_toNat_eq (by omega)
    have HQ := Lib.hid hq
    have HL := Lib.hid hlen
    clear hq hlen hpe hp0 hJ0
    obtain ⟨fn, tmps, assign, body, hy, hR⟩ := hY pre (pws a pre.length) wr hJp rfl
    rw [← HQ.out] at hy hR
    gi_wp2
    refine ⟨fun h => absurd h (by decide), hR.mono ?_⟩
    rintro e W3 (⟨rfl, hJ3⟩ | ⟨rfl, hJx3⟩)
    · obtain ⟨hc3, hl3⟩ := hBd _ _ hJ3
      gi_wp2
      refine ⟨trivial, fun h => absurd h (by decide), (callsIn_wide.2 (mul_u _ _ _)).mono ?_⟩
      rintro e W4 ⟨rfl, hb4⟩
      gi_wp2
      have hJ4 := hJ _ _ _ none hJ3 (grown_of_below hb4 none) (fun r e => by cases e)
      have hp1 : ∃ m, (∃ p : List G, p.length + m = N ∧ Value.int .u8 ((mul (pws a pre0.length) a).toNat : Int) = .int .u8 ((pws a p.length).toNat : Int) ∧ J p W4) :=
        ⟨N - (pre.length + 1), pre ++ [pws a pre0.length], by simp at hl3 ⊢; omega, by simp [HQ.out, pws], hJ4⟩
      go_roundw
      case rel => exact ⟨pre ++ [pws a pre0.length], by simp [HQ.out, pws], hJ4⟩
      case measure =>
        have hl := HL.out
        refine Nat.lt_of_le_of_lt ((leastOf_spec hp1).2 (N - (pre.length + 1)) ⟨pre ++ [pws a pre0.length], by simp at hl3 ⊢; omega, by simp [HQ.out, pws], hJ4⟩) ?_
        show _ < leastOf _
        simp at hl3
        omega
    · gi_wp2
      go_end0
      exact ⟨⟨_, rfl⟩, .inr ⟨_, trivial, hJx3⟩⟩
theorem eval_round (n : Nat) (w W W4 : World) (A : Option Addr) (c k : Nat) (x : G) (l : List G) (y : G) (hn : n = w.heap.size) (hB : Below n w W) (hb4 : Below W.heap.size W W4) (hlt : k < l.length) (hsz : n + 1 + 1 + 1 < W.heap.size)
    (hc0 : W.cell? ⟨n, 0, none⟩ = some (.slice A l.length c)) (k1 : W4.cell? ⟨n + 1, 0, none⟩ = some (gv y)) (k2 : W4.frozen? ⟨n + 1, 0, none⟩ = false)
    (k3 : W4.cell? ⟨n + 1 + 1, 0, none⟩ = some (.int .i64 (k : Int))) (k4 : W4.frozen? ⟨n + 1 + 1, 0, none⟩ = false) (hc3 : W.cell? ⟨n + 1 + 1 + 1, 0, none⟩ = some (gv x)) (z : G) (hz : evTo l x (k + 1) = z) (pre : List G) (hp : pre.length = k + 1) :
    KeepsOthers W ((W4.setCell ⟨n + 1, 0, none⟩ (gv z)).setCell ⟨n + 1 + 1, 0, none⟩ (.int .i64 ((k : Int) + 1))) ∧
    ((pre.length ≤ l.length ∧ ((W4.setCell ⟨n + 1, 0, none⟩ (gv z)).setCell ⟨n + 1 + 1, 0, none⟩ (.int .i64 ((k : Int) + 1))).cell? ⟨n, 0, none⟩ = some (.slice A l.length c) ∧
      ((W4.setCell ⟨n + 1, 0, none⟩ (gv z)).setCell ⟨n + 1 + 1, 0, none⟩ (.int .i64 ((k : Int) + 1))).cell? ⟨n + 1, 0, none⟩ = some (gv (evTo l x pre.length)) ∧
      ((W4.setCell ⟨n + 1, 0, none⟩ (gv z)).setCell ⟨n + 1 + 1, 0, none⟩ (.int .i64 ((k : Int) + 1))).frozen? ⟨n + 1, 0, none⟩ = false ∧
      ((W4.setCell ⟨n + 1, 0, none⟩ (gv z)).setCell ⟨n + 1 + 1, 0, none⟩ (.int .i64 ((k : Int) + 1))).cell? ⟨n + 1 + 1, 0, none⟩ = some (.int .i64 (pre.length : Int)) ∧
      ((W4.setCell ⟨n + 1, 0, none⟩ (gv z)).setCell ⟨n + 1 + 1, 0, none⟩ (.int .i64 ((k : Int) + 1))).frozen? ⟨n + 1 + 1, 0, none⟩ = false ∧
      ((W4.setCell ⟨n + 1, 0, none⟩ (gv z)).setCell ⟨n + 1 + 1, 0, none⟩ (.int .i64 ((k : Int) + 1))).cell? ⟨n + 1 + 1 + 1, 0, none⟩ = some (gv x)) ∧
      Below n w ((W4.setCell ⟨n + 1, 0, none⟩ (gv z)).setCell ⟨n + 1 + 1, 0, none⟩ (.int .i64 ((k : Int) + 1)))) := by
  subst hz
  have h0 : W4.cell? ⟨n, 0, none⟩ = some (.slice A l.length c) := (hb4.cell (p := ⟨n, 0, none⟩) (by show n < _; omega)).trans hc0
  have h3 : W4.cell? ⟨n + 1 + 1 + 1, 0, none⟩ = some (gv x) := (hb4.cell (p := ⟨n + 1 + 1 + 1, 0, none⟩) hsz).trans hc3
  refine ⟨((keepsOthers_below hb4).trans (KeepsOthers.setCell _ _ _)).trans (KeepsOthers.setCell _ _ _), ⟨by omega, ?_, ?_, ?_, ?_, ?_, ?_⟩, ?_⟩
  · rw [cell_set_ne _ _ _ _ (by dsimp only; omega), cell_set_ne _ _ _ _ (by dsimp only; omega)]; exact h0
  · rw [cell_set_ne _ _ _ _ (by dsimp only; omega), hp]; exact World.cell?_setCell_same' _ _ _ (by rw [k1]; rfl)
  · rw [World.frozen?_setCell, World.frozen?_setCell]; exact k2
  · rw [hp]; exact World.cell?_setCell_same' _ _ _ (by rw [cell_set_ne _ _ _ _ (by dsimp only; omega), k3]; rfl)
  · rw [World.frozen?_setCell, World.frozen?_setCell]; exact k4
  · rw [cell_set_ne _ _ _ _ (by dsimp only; omega), cell_set_ne _ _ _ _ (by dsimp only; omega)]; exact h3
  · exact ((hB.trans (hb4.mono (by omega))).setCell (p := ⟨n + 1, 0, none⟩) (by simp) _).setCell (p := ⟨n + 1 + 1, 0, none⟩) (by show n ≤ n + 1 + 1; omega) _
set_option maxRecDepth 100000 in
set_option maxHeartbeats 2000000 in
theorem eval_u (A : Option Addr) (n c : Nat) (l : List G) (x : G) (w : World) (hr : RL gv w A n l) :
    Calls Try.prog 22 #[.slice A n c, .int .u8 (x.toNat : Int)] w fun e w' => e = .returned (.int .u8 ((ev l x).toNat : Int)) ∧ Below w.heap.size w w' := by
  obtain rfl := hr.1
  refine (callsIn_wide (n := 5)).1 ?_
  refine callsIn_of_wp_marks Try.func22 rfl trivial ?_ rfl
  simp only [Try.ntmps22, List.size_toArray, List.length_cons, List.length_nil, Nat.reduceAdd, Nat.reduceSub, Array.replicate_succ, Array.replicate_zero, List.push_toArray, List.append_toArray, List.nil_append, List.cons_append]
  have hro : Fence.wide.round = none := rfl
  gi_wp2
  refine ⟨trivial, (callsIn_wide.2 (powers_u _ _)).mono ?_⟩
  rintro e w1 ⟨rfl, rfl⟩
  gi_wp2
  have h4 : ∀ y : World, y = (((w.alloc (.cells #[.slice A l.length c] 30)).alloc (.cells #[.int .u8 0] 5)).alloc (.cells #[.int .i64 0] 3)).alloc (.cells #[gv x] 5) →
      y.heap.size = w.heap.size + 4 ∧ Below w.heap.size w y ∧ y.cell? ⟨w.heap.size, 0, none⟩ = some (.slice A l.length c) ∧ y.cell? ⟨w.heap.size + 1, 0, none⟩ = some (.int .u8 0) ∧ y.frozen? ⟨w.heap.size + 1, 0, none⟩ = false ∧
      y.cell? ⟨w.heap.size + 2, 0, none⟩ = some (.int .i64 0) ∧ y.frozen? ⟨w.heap.size + 2, 0, none⟩ = false ∧ y.cell? ⟨w.heap.size + 3, 0, none⟩ = some (gv x) := by
    rintro y rfl
    refine ⟨by simp, balloc (balloc (balloc (below_alloc1 _ _) _) _) _, ?_, ?_, ?_, ?_, ?_, ?_⟩
    · rw [cell_old _ _ _ (by simp; omega), cell_old _ _ _ (by simp; omega), cell_old _ _ _ (by simp), cell_new _ _ _ _ _ _ rfl]; rfl
    · rw [cell_old _ _ _ (by simp), cell_old _ _ _ (by simp), cell_new _ _ _ _ _ _ (by simp)]; rfl
    · rw [frozen_old _ _ _ (by simp), frozen_old _ _ _ (by simp), frozen_new _ _ _ _ _ (by simp)]
    · rw [cell_old _ _ _ (by simp), cell_new _ _ _ _ _ _ (by simp)]; rfl
    · rw [frozen_old _ _ _ (by simp), frozen_new _ _ _ _ _ (by simp)]
    · rw [cell_new _ _ _ _ _ _ (by simp)]; rfl
  generalize hW0 : (((w.alloc (.cells #[.slice A l.length c] 30)).alloc (.cells #[.int .u8 0] 5)).alloc (.cells #[.int .i64 0] 3)).alloc (.cells #[gv x] 5) = W0
  obtain ⟨hsz, hB0, hc0, hc1, hf1, hc2, hf2, hc3⟩ := h4 W0 hW0.symm
  clear h4 hW0
  have hcl : l.length ≤ 9223372036854775807 := hr.2.1
  refine rangeFuncJ hro (by decide) (gf := 56) (lb := #[.pointer (some ⟨w.heap.size + 1 + 1 + 1, 0, none⟩)]) rfl trivial (enters_of Try.func56 (by kernel_rfl) rfl)
    (powers_seq x (w.heap.size + 1 + 1 + 1) l.length _ _) (fun _ => rfl)
    (fun pre W => (pre.length ≤ l.length ∧ W.cell? ⟨w.heap.size, 0, none⟩ = some (.slice A l.length c) ∧ W.cell? ⟨w.heap.size + 1, 0, none⟩ = some (gv (evTo l x pre.length)) ∧ W.frozen? ⟨w.heap.size + 1, 0, none⟩ = false ∧
      W.cell? ⟨w.heap.size + 1 + 1, 0, none⟩ = some (.int .i64 (pre.length : Int)) ∧ W.frozen? ⟨w.heap.size + 1 + 1, 0, none⟩ = false ∧ W.cell? ⟨w.heap.size + 1 + 1 + 1, 0, none⟩ = some (gv x)) ∧ Below w.heap.size w W)
    (fun co pre W => (co = .exit 0 ∧ W.cell? ⟨w.heap.size + 1, 0, none⟩ = some (gv (ev l x)) ∧ W.frozen? ⟨w.heap.size + 1, 0, none⟩ = false) ∧ Below w.heap.size w W)
    (OwnFrom.and (Own.from (fun s A B row hs hg hr => ⟨hs.1, cell_kept hs.2.1 hg hr, cell_kept hs.2.2.1 hg hr, (frozen_kept hs.2.2.1 hg hr).trans hs.2.2.2.1, cell_kept hs.2.2.2.2.1 hg hr, (frozen_kept hs.2.2.2.2.1 hg hr).trans hs.2.2.2.2.2.1, cell_kept hs.2.2.2.2.2.2 hg hr⟩) _) (ownFrom_below (Nat.le_refl _) (by omega)))
    (fun co => OwnFrom.and (Own.from (fun s A B row hs hg hr => ⟨hs.1, cell_kept hs.2.1 hg hr, (frozen_kept hs.2.1 hg hr).trans hs.2.2⟩) _) (ownFrom_below (Nat.le_refl _) (by omega)))
    (fun pre W h => ⟨h.1.2.2.2.2.2.2, h.1.1⟩)
    ⟨⟨by simp, hc0, hc1, hf1, hc2, hf2, hc3⟩, hB0⟩
    (fun p => { tmps := #[.slice A l.length c, gv x, .pointer (some ⟨w.heap.size, 0, none⟩), undef, .pointer (some ⟨w.heap.size + 1, 0, none⟩), .pointer (some ⟨w.heap.size + 1 + 1, 0, none⟩), gv p, gv x, .func (.func 56) #[] #[.pointer (some ⟨w.heap.size + 1 + 1 + 1, 0, none⟩)], gv p, undef, undef, undef, undef, undef, undef, undef, undef, undef, undef, undef, undef, undef, undef, undef], defers := [] })
    ?assign ?body ?done ?stop
  case assign =>
    intro l x W K hK
    gi_wp2
    exact hK
  case body =>
    rintro lo pre p W ⟨⟨hk, hc0, hc1, hf1, hc2, hf2, hc3⟩, hB⟩ rfl
    by_cases hlt : pre.length < l.length
    · obtain ⟨b, o, rfl, hb, hcb⟩ := hr.2.2 pre.length hlt
      have hcw := (hB.cell (p := ⟨b, o + pre.length, none⟩) hb).trans hcb
      have hct : ((pre.length : Int) == (l.length : Int)) = false := by rw [beq_eq_false_iff_ne]; omega
      gi_wp2
      have hmo : Try.prog.follows .mixedOrders = true := by kernel_rfl
      have h3 := World.block_lt_of_cell? W _ hc3
      have h1 : w.heap.size + 1 < W.heap.size := by dsimp only at h3; omega
      have h2 : w.heap.size + 1 + 1 < W.heap.size := by dsimp only at h3; omega
      gi_region_with_o (refine ⟨trivial, (CallsIn.inRound lo (callsIn_wide.2 (mul_u _ _ _))).mono ?_⟩; rintro e W4 ⟨rfl, hb4⟩; replace hb4 : Below W.heap.size W W4 := ⟨hb4.os, hb4.tape, hb4.output, hb4.size, hb4.block⟩; have k1 := (hb4.cell (p := ⟨w.heap.size + 1, 0, none⟩) h1).trans hc1; have k2 := (hb4.frozen (p := ⟨w.heap.size + 1, 0, none⟩) h1).trans hf1; have k3 := (hb4.cell (p := ⟨w.heap.size + 1 + 1, 0, none⟩) h2).trans hc2; have k4 := (hb4.frozen (p := ⟨w.heap.size + 1 + 1, 0, none⟩) h2).trans hf2)
      all_goals
        have hb5 : Below W.heap.size W ‹World› := by assumption
        gi_wp2
        rw [bits_xor_g]
        exact eval_round w.heap.size w W _ _ c pre.length x l _ rfl hB hb5 hlt h3 hc0 (by assumption) (by assumption) (by assumption) (by assumption) hc3 _ (evTo_succ l x _ hlt) _ (by simp)
    · have hl : pre.length = l.length := by omega
      have he : evTo l x pre.length = ev l x := by rw [hl, evTo_all]
      rw [he] at hc1
      have HE := Lib.hid he; clear he
      have ht : ((pre.length : Int) == (l.length : Int)) = true := by rw [hl]; simp
      clear hl
      gi_wp2
      exact ⟨KeepsOthers.refl _, ⟨rfl, hc1, hf1⟩, hB⟩
  case done =>
    intro D xs W _ h
    exact h.elim
  case stop =>
    rintro D co pre W hD _ ⟨⟨rfl, hc, hf⟩, hB⟩ hK
    gi_wp2
    have hK' := (KeepsOthers.setCell W ⟨w.heap.size + 1, 0, none⟩ (gv (ev l x))).same D _ hK rfl
    have hc5 := cell_kept (World.cell?_setCell_same' W ⟨w.heap.size + 1, 0, none⟩ (gv (ev l x)) (by rw [hc]; rfl)) (grownBy_putObj' _ D (.deferred none)) (fun r e => by cases e; exact ⟨_, hK', rfl⟩)
    refine ⟨by simp, .inl ⟨_, _, rfl, run_takeDeferred hK', ?_⟩⟩
    refine ⟨gv (ev l x), ?_, rfl, (hB.setCell (p := ⟨w.heap.size + 1, 0, none⟩) (by simp) _).trans (belowK_b (w := w) (Nat.le_refl _) _ D _ _ (by omega) hK' rfl rfl)⟩
    simp [results, Try.f22, go_sem, hc5]
end Go.Proofs.Ytillfbohengpaaa

/-
  WALKS: field.Coefficients, field.Through.
-/
set_option linter.unusedVariables false
set_option linter.unusedSimpArgs false
namespace Go.Proofs.Ytillfbohengpaaa
open Go.RowKit Gf Go.Sort
attribute [local go_sem] bits_gx
theorem Try.info5 : (Try.prog.info? 5).map (fun i => (i.zero, i.size, i.bytes)) = some (some (.int .u8 0), 1, 1) := by kernel_rfl
theorem slice_u8 : Try.prog.underlying 30 = some (.slice 5) := by kernel_rfl
theorem mixed : Try.prog.follows .mixedOrders = true := by kernel_rfl
theorem RL.atg {w : World} {A : Option Addr} {n : Nat} {l : List G} (h : RL gv w A n l) (j : Nat) (hj : j < n) : ∃ b o, A = some ⟨b, o, none⟩ ∧ b < w.heap.size ∧ w.cell? ⟨b, o + j, none⟩ = some (gv (g l j)) := by
  obtain ⟨b, o, h1, h2, h3⟩ := h.at j hj
  exact ⟨b, o, h1, h2, by rw [h3, g_eq l j (by rw [h.1]; exact hj)]⟩
theorem OwnL.cellg {E : TypeId} {w : World} {base n g0 cap : Nat} {l : List G} (h : OwnL gv E w base (.slice (some ⟨g0, 0, none⟩) n cap) n l) (j : Nat) (hj : j < n) : w.cell? ⟨g0, j, none⟩ = some (gv (g l j)) := by
  have := h.length
  rw [h.cell j (by omega), g_eq l j (by omega)]
theorem g_scale (c : G) (l : List G) (j : Nat) (h : j < l.length) : g (scale c l) j = mul c (g l j) := by
  rw [g_eq _ j (by simpa [scale] using h), g_eq l j h]; simp [scale]
theorem addTo_step (c T : G) (l z : List G) (j k : Nat) (hl : l.length = k) (hz : z.length = k) (hj : j < k) (hT : T = g (addTo l (scale c z) j) j) : (addTo l (scale c z) j).set j (gx T (mul c (g z j))) = addTo l (scale c z) (j + 1) := by
  have h := addTo_set l (scale c z) j (by omega) (by rw [addTo_length]; omega)
  rw [g_scale c z j (by omega), ← g_eq _ j (by rw [addTo_length]; omega), ← hT] at h
  exact h
theorem lin_mid (x T : G) (z : List G) (j : Nat) (hT : T = g (linTo z x 1#8 j) j) : (linTo z x 1#8 j).set j (gx T (mul (g z j) x)) = linMid z x 1#8 j := by
  subst hT; rfl
theorem lin_step (x V : G) (z : List G) (j : Nat) (hj : j < z.length) (hV : V = g (linMid z x 1#8 j) (j + 1)) : (linMid z x 1#8 j).set (j + 1) (gx V (g z j)) = linTo z x 1#8 (j + 1) := by
  have h := linTo_set z x 1#8 j hj
  rw [mul_one, ← hV] at h
  exact h
theorem invR_fst (a : G) : (invR a).1 = inv a := by
  unfold invR
  split
  · rename_i h; subst h; decide +kernel
  · rfl
theorem nt_next (xs ys : List G) (k : Nat) (z l l1 : List G) (X Y C : G) (HS : ntTo xs ys k = (z, l)) (hX : X = g xs k) (hY : Y = g ys k) (hl1 : l ++ [0#8] = l1) (hC : C = mul (gx Y (ev l X)) (invR (ev z X)).1) :
    ntTo xs ys (k + 1) = (lin z X 1#8, add l1 (scale C z)) := by
  subst hl1 hC hX hY
  rw [ntTo, HS, invR_fst]
  rfl
theorem coefs_bad (A B : Option Addr) (c d n m : Nat) (xs ys : List G) (w : World) (hx : RL gv w A n xs) (hy : RL gv w B m ys) (hn : ¬ (xs.Nodup ∧ n = m)) :
    Calls Try.prog 20 #[.slice A n c, .slice B m d] w fun e w' => e = .returned (.tuple #[.slice none 0 0, .int .i64 1]) ∧ Below w.heap.size w w' := by
  have hd : decide (xs.Nodup ∧ n = m) = false := decide_eq_false hn
  clear hn
  go_enter Try.func20, Try.ntmps20
  go_wp2_with fail
  refine (points_u _ _ _ _ _ _ _ _ hx).mono ?_
  rintro e w1 ⟨rfl, hb1⟩
  rw [hd]
  go_wp2_with fail
  go_ret2
  exact ⟨rfl, hb1⟩
set_option maxRecDepth 100000 in
set_option maxHeartbeats 2000000 in
theorem coefs_ok (A B : Option Addr) (c d n : Nat) (xs ys : List G) (w : World) (hx : RL gv w A n xs) (hy : RL gv w B n ys) (hn : xs.Nodup) (hb : n ≤ 1000) :
    Calls Try.prog 20 #[.slice A n c, .slice B n d] w fun e w' => ∃ v, e = .returned (.tuple #[v, .int .i64 0]) ∧ OwnL gv 5 w' w.heap.size v n (coefs xs ys) ∧ Below w.heap.size w w' := by
  have hlx := Lib.hid hx.1
  obtain ⟨i0, hi, hz0, hz1, hz2⟩ := info_parts Try.info5
  go_enter Try.func20, Try.ntmps20
  go_wp2_with fail
  refine (points_u _ _ _ _ _ _ _ _ hx).mono ?_
  rintro e w1 ⟨rfl, hb1⟩
  rw [show decide (xs.Nodup ∧ n = n) = true from decide_eq_true ⟨hn, rfl⟩]
  go_wp2_with fail
  generalize hW0 : w1.alloc _ = W0
  have hz : OwnL gv 5 W0 w.heap.size (.slice (some ⟨w1.heap.size, 0, none⟩) 1 1) 1 [1#8] := by
    rw [← hW0]; exact OwnL.lit w1 _ [1#8] 1 rfl rfl hb1.size (by decide)
  have hB0 : Below w.heap.size w W0 := by rw [← hW0]; exact balloc hb1 _
  clear hW0
  go_loopw [4, 6, 24] (fun lv zv si wr => ∃ (k : Nat) (z l : List G), k ≤ n ∧ si = .int .i64 k ∧ Hid (ntTo xs ys k = (z, l)) ∧ OwnL gv 5 wr w.heap.size lv k l ∧ OwnL gv 5 wr w.heap.size zv (k + 1) z ∧ (lv.ownBlock = none ∨ lv.ownBlock ≠ zv.ownBlock) ∧ Below w.heap.size w wr)
    (fun _ _ si _ => n - (intOf si).toNat)
  case atStart => exact ⟨0, [1#8], [], by omega, rfl, rfl, OwnL.nil _ _ _ _, hz, .inl rfl, hB0⟩
  case round =>
    obtain ⟨k, z, l, hk, rfl, HS, hol, hoz, hne, hB⟩ := hrel
    clear hz hB0
    by_cases hlt : k < n
    · obtain ⟨bx, ox, rfl, hbx, hcx⟩ := hx.atg k hlt
      obtain ⟨b_y, oy, rfl, hby, hcy⟩ := hy.atg k hlt
      obtain ⟨X, HX⟩ : ∃ X, Hid (X = g xs k) := ⟨_, rfl⟩
      obtain ⟨Y, HY⟩ : ∃ Y, Hid (Y = g ys k) := ⟨_, rfl⟩
      rw [← HX.out] at hcx
      rw [← HY.out] at hcy
      have hcx' := (hB.cell (p := ⟨bx, ox + k, none⟩) hbx).trans hcx
      obtain ⟨gz, capz, rfl, hgz, hgzlt⟩ := hoz.form (by omega)
      have hrz := hoz.rlg
      obtain ⟨Al, cl, rfl, hrl⟩ := hol.rl
      clear hcx
      go_wp2_with fail
      refine (eval_u _ _ _ _ _ _ hrz).mono ?_
      rintro e w2 ⟨rfl, hb2⟩
      go_wp2_with fail
      refine (inv_u _ _).mono ?_
      rintro e w3 ⟨rfl, hb3⟩
      go_wp2_with fail
      have hb23 : Below wr.heap.size wr w3 := bthen hb2 hb3
      have hB3 := bthen hB hb23
      have hcy' : ∀ (dr : Nat) (os : Array Obj), (grow (redrawn w3 dr) os).cell? ⟨b_y, oy + k, none⟩ = some (gv Y) := cell_regrown ((hB3.cell (p := ⟨b_y, oy + k, none⟩) hby).trans hcy)
      have hrl3 := hrl.below hb23
      refine wp_region_quiet_below mixed (by kernel_rfl) ?_
      repeat (quiet_step ((first | (go_at_call 22; exact Calls.regrown_of (eval_u _ _ _ _ _ _ (hrl3.below (below_regrown _ _ _)))) | (go_at_call 18; exact Calls.regrown_of (mul_u _ _ _)))))
      refine wpQuiet_nil ?_
      rintro _ ⟨p4, rfl⟩
      have hb4 := below_regrown w3 p4.d p4.os
      generalize grow (redrawn w3 p4.d) p4.os = w4 at *
      clear hcy' hrl3 hrz hrl hcx' hcy
      have hb24 := bthen hb23 hb4
      have hB4 := bthen hB hb24
      replace hol := hol.below hb24
      replace hoz := hoz.below hb24
      generalize Value.slice Al k cl = lv4 at *
      go_wp2_with (at_builtin; refine wpList_app rfl _ _ 30 rfl 0#8 rfl slice_u8 hi hz0 hz1 hz2 rfl rfl rfl hol rfl hB4.size (by omega) (by omega) ?_; intro v5 w5 hol5 hgr5 hob5)
      have hlow : Below w.heap.size w w5 := hB4.grown hgr5 hB4.size (fun k hk => (hol.lt k hk).1)
      have hgz4 : gz < w4.heap.size := (hoz.lt gz rfl).2
      have hzn : some gz ≠ lv4.ownBlock := by
        rcases hne with h | h
        · rw [h]; simp
        · exact fun e => h e.symm
      have hoz5 := hoz.kept hgr5 (.inr hzn)
      obtain ⟨g5, cap5, rfl, hg5, hg5lt⟩ := hol5.form (by omega)
      have h5z : g5 ≠ gz := by
        rintro rfl
        rcases hob5 with h | h
        · exact hzn h
        · have : g5 = w4.heap.size + 1 := Option.some.inj h
          omega
      obtain ⟨C, HC⟩ : ∃ C, Hid (C = mul (gx Y (ev l X)) (invR (ev z X)).1) := ⟨_, rfl⟩
      rw [← HC.out]
      have hll : (l ++ [0#8]).length = k + 1 := hol5.length
      have hlz : z.length = k + 1 := hoz5.length
      generalize hl1 : l ++ [0#8] = l1 at *
      have HL1 := Lib.hid hl1; clear hl1
      rw [← addTo_zero l1 (scale C z)] at hol5
      replace hll := Lib.hid hll
      replace hlz := Lib.hid hlz
      have Hne := Lib.hid h5z
      clear hgr5 hob5 hzn hoz hol hne h5z
      go_loopw [51] (fun si wr => ∃ (j : Nat), j ≤ k + 1 ∧ si = .int .i64 j ∧ OwnL gv 5 wr w.heap.size (.slice (some ⟨g5, 0, none⟩) (k + 1) cap5) (k + 1) (addTo l1 (scale C z) j) ∧ OwnL gv 5 wr w.heap.size (.slice (some ⟨gz, 0, none⟩) (k + 1) capz) (k + 1) z ∧ Below w.heap.size w wr)
        (fun si _ => k + 1 - (intOf si).toNat)
      case atStart => exact ⟨0, by omega, rfl, hol5, hoz5, hlow⟩
      case round =>
        obtain ⟨j, hj, rfl, hl6, hz6, hB6⟩ := hrel
        clear hol5 hoz5 hlow hgz4 hB4 hb24 hb4
        by_cases hjlt : j < k + 1
        · have hcz := hz6.cellg j hjlt
          have hcl := hl6.cellg j hjlt
          generalize hT : g (addTo l1 (scale C z) j) j = T at hcl
          have HT := Lib.hid hT.symm; clear hT
          go_wp2_with fail
          have hcl' : ∀ (dr : Nat) (os : Array Obj), (grow (redrawn wr dr) os).cell? ⟨g5, j, none⟩ = some (gv T) := cell_regrown hcl
          refine wp_region_qt 8 mixed (by kernel_rfl) (by decide) (by kernel_rfl) ?_
          repeat (quiet_step ((go_at_call 18; exact Calls.regrown_of (mul_u _ _ _))))
          refine wpQuiet_nil ?_
          intro w7 hb7
          have hg5w := (hl6.lt g5 rfl).2
          replace hl6 := hl6.below hb7
          replace hz6 := hz6.below hb7
          replace hB6 := bthen hB6 hb7
          have hcl7 : w7.cell? ⟨g5, j, none⟩ = some (gv T) := (hb7.cell (p := ⟨g5, j, none⟩) hg5w).trans hcl
          have hfr := hl6.free j
          clear hcl' hcl hcz
          go_wp2_with fail
          refine ⟨⟨j + 1, by omega, by go_num, ?_, ?_, ?_⟩, by simp [intOf]; omega⟩
          · rw [← addTo_step C T l1 z j (k + 1) hll.out hlz.out hjlt HT.out]
            exact hl6.set j _
          · exact hz6.setOther _ _ (fun e => Hne.out (Option.some.inj e).symm)
          · exact hB6.setCell hg5 _
        · obtain rfl : j = k + 1 := by omega
          rw [addTo_all l1 (scale C z) (by simp [scale, hll.out, hlz.out]) (k + 1) (by rw [hll.out]; omega)] at hl6
          go_wp2_with (at_make; refine wpList_mk (enc := gv) rfl _ _ 30 rfl 0#8 (k + 2) slice_u8 hi hz0 hz1 hz2 rfl _ _ _ _ rfl rfl (by omega) (by omega) (by omega) (by omega) hB6.size ?_; intro w7 hn7 hb7)
          have h5n : wr.heap.size ≠ g5 := Nat.ne_of_gt (hl6.lt g5 rfl).2
          have hzn : wr.heap.size ≠ gz := Nat.ne_of_gt (hz6.lt gz rfl).2
          have hBn := hB6.size
          replace hl6 := hl6.below hb7
          replace hz6 := hz6.below hb7
          replace hB6 := bthen hB6 hb7
          clear hb7
          generalize wr.heap.size = gn at *
          have HN5 := Lib.hid h5n
          have HNZ := Lib.hid hzn
          clear h5n hzn
          rw [show List.replicate (k + 2) 0#8 = linTo z X 1#8 0 by rw [linTo_zero, hlz.out]] at hn7
          go_loopw [72] (fun si wr => ∃ (j : Nat), j ≤ k + 1 ∧ si = .int .i64 j ∧ OwnL gv 5 wr w.heap.size (.slice (some ⟨gn, 0, none⟩) (k + 2) (k + 2)) (k + 2) (linTo z X 1#8 j) ∧ OwnL gv 5 wr w.heap.size (.slice (some ⟨g5, 0, none⟩) (k + 1) cap5) (k + 1) (add l1 (scale C z)) ∧ OwnL gv 5 wr w.heap.size (.slice (some ⟨gz, 0, none⟩) (k + 1) capz) (k + 1) z ∧ Below w.heap.size w wr)
            (fun si _ => k + 1 - (intOf si).toNat)
          case atStart => exact ⟨0, by omega, rfl, hn7, hl6, hz6, hB6⟩
          case round =>
            obtain ⟨j, hj, rfl, hn8, hl8, hz8, hB8⟩ := hrel
            clear hn7 hl6 hz6 hB6
            by_cases hjlt : j < k + 1
            · have hcz := hz8.cellg j hjlt
              have hcn := hn8.cellg j (by omega)
              generalize hT : g (linTo z X 1#8 j) j = T at hcn
              have HT := Lib.hid hT.symm; clear hT
              generalize hZ : g z j = Z at hcz
              have HZ := Lib.hid hZ.symm; clear hZ
              go_wp2_with fail
              have hcn' : ∀ (dr : Nat) (os : Array Obj), (grow (redrawn wr dr) os).cell? ⟨gn, j, none⟩ = some (gv T) := cell_regrown hcn
              have hj2 : j < k + 2 := by omega
              have hj3 : (j : Int) < (k : Int) + 2 := by omega
              have hj4 : (j : Int) + 1 < (k : Int) + 2 := by omega
              refine wp_region_qt 8 mixed (by kernel_rfl) (by decide) (by kernel_rfl) ?_
              repeat (quiet_step ((go_at_call 18; exact Calls.regrown_of (mul_u _ _ _))))
              refine wpQuiet_nil ?_
              intro w9 hb9
              have hgw := (hn8.lt gn rfl).2
              replace hn8 := hn8.below hb9
              replace hl8 := hl8.below hb9
              replace hz8 := hz8.below hb9
              replace hB8 := bthen hB8 hb9
              have hcn9 : w9.cell? ⟨gn, j, none⟩ = some (gv T) := (hb9.cell (p := ⟨gn, j, none⟩) hgw).trans hcn
              have hfr := hn8.free j
              have hfr1 := hn8.free (j + 1)
              have hmid := hn8.set j (gx T (mul Z X))
              rw [HZ.out, lin_mid X T z j HT.out, ← HZ.out] at hmid
              have hcm := hmid.cellg (j + 1) (by omega)
              generalize hV : g (linMid z X 1#8 j) (j + 1) = V at hcm
              have HV := Lib.hid hV.symm; clear hV
              have hfm := hmid.free (j + 1)
              clear hcn' hcn hcz
              go_wp2_with fail
              refine ⟨⟨j + 1, by omega, by go_num, ?_, ?_, ?_, ?_⟩, by simp [intOf]; omega⟩
              · rw [← lin_step X V z j (by have := hlz.out; omega) HV.out, ← HZ.out]
                exact hmid.set (j + 1) _
              · exact (hl8.setOther _ _ (fun e => HN5.out (Option.some.inj e).symm)).setOther _ _ (fun e => HN5.out (Option.some.inj e).symm)
              · exact (hz8.setOther _ _ (fun e => HNZ.out (Option.some.inj e).symm)).setOther _ _ (fun e => HNZ.out (Option.some.inj e).symm)
              · exact (hB8.setCell hBn _).setCell hBn _
            · obtain rfl : j = k + 1 := by omega
              have hnt := nt_next xs ys k z l l1 X Y C HS.out HX.out HY.out HL1.out HC.out
              have hla := linTo_all z X 1#8
              rw [hlz.out] at hla
              rw [hla] at hn8
              clear hla
              have HNT := Lib.hid hnt
              clear hnt
              go_wp2_with fail
              refine ⟨⟨k + 1, lin z X 1#8, add l1 (scale C z), by omega, by go_num, HNT.out, hl8, hn8, .inr (fun e => HN5.out (Option.some.inj e).symm), hB8⟩, by simp [intOf]; omega⟩
    · obtain rfl : k = n := by omega
      go_wp2_with fail
      go_ret2
      refine ⟨_, rfl, ?_, hB⟩
      have : coefs xs ys = l := by unfold coefs; rw [hlx.out, HS.out]
      rw [this]
      exact hol
end Go.Proofs.Ytillfbohengpaaa

/-
  WALKS: field.Through, the chapter's examples (testamurlaw07.sane).
-/
set_option linter.unusedVariables false
set_option linter.unusedSimpArgs false
namespace Go.Proofs.Ytillfbohengpaaa
open Go.RowKit Gf Go.Sort
attribute [local go_sem] bits_gx
theorem through_bad (A B : Option Addr) (c d n m : Nat) (xs ys : List G) (x : G) (w : World) (hx : RL gv w A n xs) (hy : RL gv w B m ys) (hn : ¬ (xs.Nodup ∧ n = m)) :
    Calls Try.prog 21 #[.slice A n c, .slice B m d, .int .u8 (x.toNat : Int)] w fun e w' => e = .returned (.tuple #[.int .u8 0, .int .i64 1]) ∧ Below w.heap.size w w' := by
  go_enter Try.func21, Try.ntmps21
  go_wp2_with fail
  refine (coefs_bad _ _ _ _ _ _ _ _ _ hx hy hn).mono ?_
  rintro e w1 ⟨rfl, hb1⟩
  go_wp2_with fail
  go_ret2
  exact ⟨rfl, hb1⟩
theorem through_ok (A B : Option Addr) (c d n : Nat) (xs ys : List G) (x : G) (w : World) (hx : RL gv w A n xs) (hy : RL gv w B n ys) (hn : xs.Nodup) (hb : n ≤ 1000) :
    Calls Try.prog 21 #[.slice A n c, .slice B n d, .int .u8 (x.toNat : Int)] w fun e w' => e = .returned (.tuple #[.int .u8 ((ev (coefs xs ys) x).toNat : Int), .int .i64 0]) ∧ Below w.heap.size w w' := by
  go_enter Try.func21, Try.ntmps21
  go_wp2_with fail
  refine (coefs_ok _ _ _ _ _ _ _ _ hx hy hn hb).mono ?_
  rintro e w1 ⟨v, rfl, hv, hb1⟩
  obtain ⟨Av, cv, rfl, hr⟩ := hv.rl
  go_wp2_with fail
  refine (eval_u _ _ _ _ _ _ hr).mono ?_
  rintro e w2 ⟨rfl, hb2⟩
  go_wp2_with fail
  go_ret2
  exact ⟨rfl, bthen hb1 hb2⟩
theorem RL.lit (w : World) (cs : Array Value) (l : List G) (n : Nat) (hcs : cs = (l.map gv).toArray) (hn : l.length = n) (hm : n ≤ 1000) : RL gv (w.alloc (.cells cs 5)) (some ⟨w.heap.size, 0, none⟩) n l :=
  (OwnL.lit (base := 0) w cs l n hcs hn (Nat.zero_le _) (by unfold maxLen; omega)).rlg
theorem und_str : Try.prog.underlying 9 = some .string := by kernel_rfl
theorem und_u8 : Try.prog.underlying 5 = some (.int .u8) := by kernel_rfl
theorem conv_two (w : World) (g0 cl : Nat) (x y : Int) (h0 : w.cell? ⟨g0, 0, none⟩ = some (.int .u8 x)) (h1 : w.cell? ⟨g0, 1, none⟩ = some (.int .u8 y)) :
    (convert 30 9 (.slice (some ⟨g0, 0, none⟩) 2 cl)).run Try.prog w = .ok (.string (strOfNums [x, y])) w := by
  refine run_convert_bytes_arg w _ _ slice_u8 und_u8 g0 0 2 cl [x, y] rfl (fun i hi => ?_) _ und_str
  match i, hi with
  | 0, _ => simpa using h0
  | 1, _ => simpa using h1
theorem inv_2 (w : World) : Calls Try.prog 16 #[.int .u8 2] w fun e w' => e = .returned (.tuple #[.int .u8 141, .int .i64 0]) ∧ Below w.heap.size w w' := by
  refine (inv_u 2#8 w).mono ?_
  rintro e w1 ⟨rfl, h⟩
  exact ⟨by rw [show invR 2#8 = (141#8, 0) by decide +kernel]; rfl, h⟩
theorem inv_0 (w : World) : Calls Try.prog 16 #[.int .u8 0] w fun e w' => e = .returned (.tuple #[.int .u8 0, .int .i64 1]) ∧ Below w.heap.size w w' := by
  refine (inv_u 0#8 w).mono ?_
  rintro e w1 ⟨rfl, h⟩
  exact ⟨by rw [show invR 0#8 = (0#8, 1) by decide +kernel]; rfl, h⟩
theorem rl2 (w : World) (a b c d : G) : RL gv ((w.alloc (.cells #[gv a, gv b] 5)).alloc (.cells #[gv c, gv d] 5)) (some ⟨w.heap.size, 0, none⟩) 2 [a, b] ∧
    RL gv ((w.alloc (.cells #[gv a, gv b] 5)).alloc (.cells #[gv c, gv d] 5)) (some ⟨w.heap.size + 1, 0, none⟩) 2 [c, d] := by
  refine ⟨(RL.lit w _ [a, b] 2 rfl rfl (by omega)).below (below_alloc1 _ _), ?_⟩
  have := RL.lit (w.alloc (.cells #[gv a, gv b] 5)) _ [c, d] 2 rfl rfl (by omega)
  rwa [show (w.alloc (.cells #[gv a, gv b] 5)).heap.size = w.heap.size + 1 by simp] at this
theorem bal2 (w : World) (o o2 : Obj) : Below w.heap.size w ((w.alloc o).alloc o2) := balloc (below_alloc1 _ _) _
theorem coefs_sane (w : World) : Calls Try.prog 20 #[.slice (some ⟨w.heap.size, 0, none⟩) 2 2, .slice (some ⟨w.heap.size + 1, 0, none⟩) 2 2]
    ((w.alloc (.cells #[.int .u8 1, .int .u8 2] 5)).alloc (.cells #[.int .u8 5, .int .u8 5] 5)) fun e w' => ∃ g0 cap, e = .returned (.tuple #[.slice (some ⟨g0, 0, none⟩) 2 cap, .int .i64 0]) ∧ g0 < w'.heap.size ∧ w'.cell? ⟨g0, 0, none⟩ = some (.int .u8 5) ∧ w'.cell? ⟨g0, 1, none⟩ = some (.int .u8 0) ∧ Below w.heap.size w w' := by
  obtain ⟨h1, h2⟩ := rl2 w 1#8 2#8 5#8 5#8
  refine (coefs_ok _ _ 2 2 2 [1#8, 2#8] [5#8, 5#8] _ h1 h2 (by decide) (by omega)).mono ?_
  rintro e w3 ⟨v, rfl, hv, hb3⟩
  rw [show coefs [1#8, 2#8] [5#8, 5#8] = [5#8, 0#8] by decide +kernel] at hv
  obtain ⟨gl, cl, rfl, hgl, hgll⟩ := hv.form (by omega)
  exact ⟨gl, cl, rfl, hgll, hv.cell 0 (by decide), hv.cell 1 (by decide), bthen (bal2 w _ _) hb3⟩
theorem through_sane (w : World) : Calls Try.prog 21 #[.slice (some ⟨w.heap.size, 0, none⟩) 2 2, .slice (some ⟨w.heap.size + 1, 0, none⟩) 2 2, .int .u8 77]
    ((w.alloc (.cells #[.int .u8 1, .int .u8 2] 5)).alloc (.cells #[.int .u8 5, .int .u8 5] 5)) fun e w' => e = .returned (.tuple #[.int .u8 5, .int .i64 0]) ∧ Below w.heap.size w w' := by
  obtain ⟨h1, h2⟩ := rl2 w 1#8 2#8 5#8 5#8
  refine (through_ok _ _ 2 2 2 [1#8, 2#8] [5#8, 5#8] 77#8 _ h1 h2 (by decide) (by omega)).mono ?_
  rintro e w3 ⟨rfl, hb3⟩
  exact ⟨by rw [show ev (coefs [1#8, 2#8] [5#8, 5#8]) 77#8 = 5#8 by decide +kernel]; rfl, bthen (bal2 w _ _) hb3⟩
theorem through_nil (w : World) : Calls Try.prog 21 #[.slice none 0 0, .slice none 0 0, .int .u8 7] w fun e w' => e = .returned (.tuple #[.int .u8 0, .int .i64 0]) ∧ Below w.heap.size w w' := by
  refine (through_ok _ _ 0 0 0 [] [] 7#8 _ (RL.nil _ _ _) (RL.nil _ _ _) (by decide) (by omega)).mono ?_
  rintro e w3 ⟨rfl, hb3⟩
  exact ⟨by rw [show ev (coefs [] []) 7#8 = 0#8 by decide +kernel]; rfl, hb3⟩
theorem through_sane2 (w : World) : Calls Try.prog 21 #[.slice (some ⟨w.heap.size, 0, none⟩) 2 2, .slice (some ⟨w.heap.size + 1, 0, none⟩) 2 2, .int .u8 7]
    ((w.alloc (.cells #[.int .u8 1, .int .u8 1] 5)).alloc (.cells #[.int .u8 5, .int .u8 5] 5)) fun e w' => e = .returned (.tuple #[.int .u8 0, .int .i64 1]) ∧ Below w.heap.size w w' := by
  obtain ⟨h1, h2⟩ := rl2 w 1#8 1#8 5#8 5#8
  refine (through_bad _ _ 2 2 2 2 [1#8, 1#8] [5#8, 5#8] 7#8 _ h1 h2 (by decide)).mono ?_
  rintro e w3 ⟨rfl, hb3⟩
  exact ⟨rfl, bthen (bal2 w _ _) hb3⟩
theorem coefs_sane2 (w : World) : Calls Try.prog 20 #[.slice (some ⟨w.heap.size, 0, none⟩) 1 1, .slice none 0 0] (w.alloc (.cells #[.int .u8 1] 5)) fun e w' => e = .returned (.tuple #[.slice none 0 0, .int .i64 1]) ∧ Below w.heap.size w w' := by
  refine (coefs_bad _ _ 1 0 1 0 [1#8] [] _ (RL.lit w _ [1#8] 1 rfl rfl (by omega)) (RL.nil _ _ _) (by decide)).mono ?_
  rintro e w3 ⟨rfl, hb3⟩
  exact ⟨rfl, bthen (below_alloc1 w _) hb3⟩
theorem mul_lit (a b : G) (x y z : Int) (hx : (a.toNat : Int) = x) (hy : (b.toNat : Int) = y) (hz : ((mul a b).toNat : Int) = z) (w : World) : Calls Try.prog 18 #[.int .u8 x, .int .u8 y] w fun e w' => e = .returned (.int .u8 z) ∧ Below w.heap.size w w' := by
  subst hx hy hz; exact mul_u a b w
theorem eval_nil (w : World) : Calls Try.prog 22 #[.slice none 0 0, .int .u8 7] w fun e w' => e = .returned (.int .u8 0) ∧ Below w.heap.size w w' := by
  refine (eval_u _ 0 0 [] 7#8 _ (RL.nil _ _ _)).mono ?_
  rintro e w3 ⟨rfl, hb3⟩
  exact ⟨rfl, hb3⟩
theorem eval_sane (w : World) : Calls Try.prog 22 #[.slice (some ⟨w.heap.size, 0, none⟩) 3 3, .int .u8 0] (w.alloc (.cells #[.int .u8 3, .int .u8 9, .int .u8 200] 5)) fun e w' => e = .returned (.int .u8 3) ∧ Below w.heap.size w w' := by
  refine (eval_u _ 3 3 [3#8, 9#8, 200#8] 0#8 _ (RL.lit w _ [3#8, 9#8, 200#8] 3 rfl rfl (by omega))).mono ?_
  rintro e w3 ⟨rfl, hb3⟩
  exact ⟨by rw [show ev [3#8, 9#8, 200#8] 0#8 = 3#8 by decide +kernel]; rfl, bthen (below_alloc1 w _) hb3⟩
set_option maxRecDepth 100000 in
set_option maxHeartbeats 2000000 in
theorem sane_u (w : World) :
    Calls Try.prog 15 #[] w fun e w' => e = .returned (.bool true) ∧ Below w.heap.size w w' := by
  go_enter Try.func15, Try.ntmps15
  go_wp2_with fail
  refine (inv_2 _).mono ?_
  rintro e w1 ⟨rfl, hb1⟩
  go_wp2_with fail
  refine (inv_0 _).mono ?_
  rintro e w2 ⟨rfl, hb2⟩
  have hB2 := bthen hb1 hb2
  clear hb1 hb2
  go_wp2_with fail
  refine (coefs_sane _).mono ?_
  rintro e w3 ⟨g0, cl, rfl, hlt3, hc0, hc1, hb3⟩
  have hB3 := bthen hB2 hb3
  clear hb3 hB2
  go_wp2_with fail
  refine (through_sane _).mono ?_
  rintro e w4 ⟨rfl, hb4⟩
  have hB4 := bthen hB3 hb4
  replace hc0 := (hb4.cell (p := ⟨g0, 0, none⟩) hlt3).trans hc0
  replace hc1 := (hb4.cell (p := ⟨g0, 1, none⟩) hlt3).trans hc1
  have hlt4 := Nat.lt_of_lt_of_le hlt3 hb4.size
  clear hb4 hB3 hlt3
  go_wp2_with fail
  refine (through_nil _).mono ?_
  rintro e w5 ⟨rfl, hb5⟩
  have hB5 := bthen hB4 hb5
  replace hc0 := (hb5.cell (p := ⟨g0, 0, none⟩) hlt4).trans hc0
  replace hc1 := (hb5.cell (p := ⟨g0, 1, none⟩) hlt4).trans hc1
  have hlt5 := Nat.lt_of_lt_of_le hlt4 hb5.size
  clear hb5 hB4 hlt4
  go_wp2_with fail
  refine (through_sane2 _).mono ?_
  rintro e w6 ⟨rfl, hb6⟩
  have hB6 := bthen hB5 hb6
  replace hc0 := (hb6.cell (p := ⟨g0, 0, none⟩) hlt5).trans hc0
  replace hc1 := (hb6.cell (p := ⟨g0, 1, none⟩) hlt5).trans hc1
  have hlt6 := Nat.lt_of_lt_of_le hlt5 hb6.size
  clear hb6 hB5 hlt5
  go_wp2_with fail
  refine (coefs_sane2 _).mono ?_
  rintro e w7 ⟨rfl, hb7⟩
  have hB7 := bthen hB6 hb7
  replace hc0 := (hb7.cell (p := ⟨g0, 0, none⟩) hlt6).trans hc0
  replace hc1 := (hb7.cell (p := ⟨g0, 1, none⟩) hlt6).trans hc1
  have hlt7 := Nat.lt_of_lt_of_le hlt6 hb7.size
  clear hb7 hB6 hlt6
  go_wp2_with fail
  refine (mul_lit 2#8 128#8 _ _ 27 rfl rfl (by decide +kernel) _).mono ?_
  rintro e w8 ⟨rfl, hb8⟩
  go_wp2_with fail
  refine (mul_lit 83#8 202#8 _ _ 1 rfl rfl (by decide +kernel) _).mono ?_
  rintro e w9 ⟨rfl, hb9⟩
  replace hc0 := ((bthen hb8 hb9).cell (p := ⟨g0, 0, none⟩) hlt7).trans hc0
  replace hc1 := ((bthen hb8 hb9).cell (p := ⟨g0, 1, none⟩) hlt7).trans hc1
  have hlt9 := Nat.lt_of_lt_of_le hlt7 (bthen hb8 hb9).size
  have hB9 := bthen hB7 (bthen hb8 hb9)
  clear hb8 hb9 hlt7 hB7
  have cv1 := conv_two w9 g0 cl _ _ hc0 hc1
  have cv2 := conv_two (w9.alloc (.cells #[.int .u8 5, .int .u8 0] 5)) w9.heap.size 2 5 0 (by rw [cell_new _ _ _ _ _ _ rfl]; rfl) (by rw [cell_new _ _ _ _ _ _ rfl]; rfl)
  generalize strOfNums [5, 0] = S at *
  have hB10 := balloc hB9 (.cells #[.int .u8 5, .int .u8 0] 5)
  clear hB9
  go_wp2_with fail
  refine (eval_nil _).mono ?_
  rintro e w11 ⟨rfl, hb11⟩
  have hB11 := bthen hB10 hb11
  clear hb11 hB10
  go_wp2_with fail
  refine (eval_sane _).mono ?_
  rintro e w12 ⟨rfl, hb12⟩
  have hB12 := bthen hB11 hb12
  clear hb12 hB11
  go_wp2_with fail
  go_ret
  exact ⟨rfl, hB12⟩
end Go.Proofs.Ytillfbohengpaaa

/-
  SHARES: a slice of shares (five cells each) reads as a list.
-/
set_option linter.unusedVariables false
set_option linter.unusedSimpArgs false
namespace Go.Proofs.Ytillfbohengpaaa
open Go.RowKit Gf
structure Sh where
  ep : Int
  ix : Int
  th : Int
  mn : Int
  da : List G
/-- A share whose data lie as the slice v. -/
def ShV (w : World) (v : Value) (s : Sh) : Prop := ∃ A n c, v = .slice A n c ∧ RL gv w A n s.da
def SC (w : World) (b o : Nat) (s : Sh) : Prop :=
  w.cell? ⟨b, o, none⟩ = some (.int .i64 s.ep) ∧ w.cell? ⟨b, o + 1, none⟩ = some (.int .i64 s.ix) ∧ w.cell? ⟨b, o + 2, none⟩ = some (.int .i64 s.th) ∧ w.cell? ⟨b, o + 3, none⟩ = some (.int .i64 s.mn) ∧
    ∃ A n c, w.cell? ⟨b, o + 4, none⟩ = some (.slice A n c) ∧ RL gv w A n s.da
def RS (w : World) (A : Option Addr) (n : Nat) (l : List Sh) : Prop :=
  l.length = n ∧ n ≤ 9223372036854775807 ∧ ∀ j (h : j < l.length), ∃ b o, A = some ⟨b, o, none⟩ ∧ b < w.heap.size ∧ SC w b (o + j * 5) l[j]
theorem SC.below {w w' : World} {b o : Nat} {s : Sh} (hb : b < w.heap.size) (h : SC w b o s) (hw : Below w.heap.size w w') : SC w' b o s := by
  obtain ⟨h0, h1, h2, h3, A, n, c, h4, h5⟩ := h
  exact ⟨(hw.cell (p := ⟨b, o, none⟩) hb).trans h0, (hw.cell (p := ⟨b, o + 1, none⟩) hb).trans h1, (hw.cell (p := ⟨b, o + 2, none⟩) hb).trans h2, (hw.cell (p := ⟨b, o + 3, none⟩) hb).trans h3, A, n, c, (hw.cell (p := ⟨b, o + 4, none⟩) hb).trans h4, h5.below hw⟩
theorem RS.below {w w' : World} {A : Option Addr} {n : Nat} {l : List Sh} (h : RS w A n l) (hb : Below w.heap.size w w') : RS w' A n l :=
  ⟨h.1, h.2.1, fun j hj => by
    obtain ⟨b, o, e, hlt, hc⟩ := h.2.2 j hj
    exact ⟨b, o, e, Nat.lt_of_lt_of_le hlt hb.size, hc.below hlt hb⟩⟩
theorem RS.nil (w : World) (A : Option Addr) : RS w A 0 [] := ⟨rfl, by omega, fun j h => by simp at h⟩
theorem RS.at {w : World} {A : Option Addr} {n : Nat} {l : List Sh} (h : RS w A n l) (j : Nat) (hj : j < n) :
    ∃ b o, A = some ⟨b, o, none⟩ ∧ b < w.heap.size ∧ SC w b (o + j * 5) (l[j]'(by rw [h.1]; exact hj)) := h.2.2 j (by rw [h.1]; exact hj)
/-- The head's own demands. -/
def headB (a : Sh) : Bool := decide (1 ≤ a.th) && decide (a.th ≤ a.mn) && decide (a.mn ≤ 8) && decide (a.da.length ≤ 64)
def okAt (a : Sh) (last : Int) (s : Sh) : Bool := decide (s.th = a.th) && decide (s.mn = a.mn) && decide (s.da.length = a.da.length) && decide (last < s.ix) && decide (s.ix ≤ s.mn)
def chainB (a : Sh) : Int → List Sh → Bool
  | _, [] => true
  | last, s :: r => okAt a last s && chainB a s.ix r
def alikeB : List Sh → Bool
  | [] => false
  | a :: r => headB a && chainB a 0 (a :: r)
end Go.Proofs.Ytillfbohengpaaa

/-
  WALKS: shares.alike.
-/
set_option linter.unusedVariables false
set_option linter.unusedSimpArgs false
namespace Go.Proofs.Ytillfbohengpaaa
open Go.RowKit Gf Go.Sort
theorem share_new (w : World) (v0 v1 v2 v3 v4 : Value) (T : TypeId) : let W := w.alloc (.cells #[v0, v1, v2, v3, v4] T)
    W.cell? ⟨w.heap.size, 0, none⟩ = some v0 ∧ W.cell? ⟨w.heap.size, 1, none⟩ = some v1 ∧ W.cell? ⟨w.heap.size, 2, none⟩ = some v2 ∧ W.cell? ⟨w.heap.size, 3, none⟩ = some v3 ∧ W.cell? ⟨w.heap.size, 4, none⟩ = some v4 ∧ Below w.heap.size w W ∧ w.heap.size < W.heap.size := by
  refine ⟨?_, ?_, ?_, ?_, ?_, below_alloc1 _ _, by simp⟩ <;> (rw [cell_new _ _ _ _ _ _ rfl]; rfl)
theorem chain_not (a s : Sh) (last : Int) (l rest : List Sh) (h : chainB a 0 l = chainB a last (s :: rest)) (hk : okAt a last s = false) : chainB a 0 l = false := by
  rw [h]; simp [chainB, hk]
theorem chain_step (a s : Sh) (last : Int) (l rest : List Sh) (h : chainB a 0 l = chainB a last (s :: rest)) (hk : okAt a last s = true) : chainB a 0 l = chainB a s.ix rest := by
  rw [h]; simp [chainB, hk]
set_option maxRecDepth 100000 in
set_option maxHeartbeats 2000000 in
theorem alike_nil (A : Option Addr) (c : Nat) (w : World) :
    Calls Try.prog 46 #[.slice A 0 c] w fun e w' => e = .returned (.bool false) ∧ Below w.heap.size w w' := by
  go_enter Try.func46, Try.ntmps46
  go_wp2_with fail
  go_quiet (fail)
  go_wp2_with fail
  go_ret
  exact ⟨rfl, bdrewN (Below.refl _ _) _⟩
set_option maxRecDepth 100000 in
set_option maxHeartbeats 2000000 in
theorem alike_u (A : Option Addr) (c n : Nat) (a : Sh) (r : List Sh) (w : World) (h : RS w A n (a :: r)) :
    Calls Try.prog 46 #[.slice A n c] w fun e w' => e = .returned (.bool (headB a && chainB a 0 (a :: r))) ∧ Below w.heap.size w w' := by
  have hn0 : 0 < n := by have := h.1; simp at this; omega
  obtain ⟨b, o, rfl, hb, hc⟩ := h.at 0 hn0
  simp only [List.getElem_cons_zero, Nat.zero_mul, Nat.add_zero] at hc
  obtain ⟨c0, c1, c2, c3, Ad, nd, cd, c4, hda⟩ := hc
  have hz : ((n : Int) == 0) = false := by rw [beq_eq_false_iff_ne]; omega
  have hni : (0 : Int) < (n : Int) := by omega
  by_cases h1 : 1 ≤ a.th
  case neg =>
    have hh : headB a = false := by simp [headB, h1]
    rw [hh]
    have d1 : a.th < 1 := by omega
    go_enter Try.func46, Try.ntmps46
    go_wp2_with fail
    go_quiet (fail)
    go_wp2_with fail
    go_ret
    exact ⟨rfl, bdrewN (Below.refl _ _) _⟩
  have d1 : decide (a.th < 1) = false := decide_eq_false (by omega)
  by_cases h2 : a.th ≤ a.mn
  case neg =>
    have hh : headB a = false := by simp [headB, h2]
    rw [hh]
    have d2 : a.mn < a.th := by omega
    go_enter Try.func46, Try.ntmps46
    go_wp2_with fail
    go_quiet (fail)
    go_wp2_with fail
    go_ret
    exact ⟨rfl, bdrewN (Below.refl _ _) _⟩
  have d2 : decide (a.mn < a.th) = false := decide_eq_false (by omega)
  by_cases h3 : a.mn ≤ 8
  case neg =>
    have hh : headB a = false := by simp [headB, h3]
    rw [hh]
    have d3 : 8 < a.mn := by omega
    go_enter Try.func46, Try.ntmps46
    go_wp2_with fail
    go_quiet (fail)
    go_wp2_with fail
    go_ret
    exact ⟨rfl, bdrewN (Below.refl _ _) _⟩
  have d3 : decide (8 < a.mn) = false := decide_eq_false (by omega)
  by_cases h4 : nd ≤ 64
  case neg =>
    have hh : headB a = false := by simp [headB, hda.1, h4]
    rw [hh]
    have d4 : (64 : Int) < (nd : Int) := by omega
    go_enter Try.func46, Try.ntmps46
    go_wp2_with fail
    go_quiet (fail)
    go_wp2_with fail
    go_ret
    exact ⟨rfl, bdrewN (Below.refl _ _) _⟩
  have d4 : decide ((64 : Int) < (nd : Int)) = false := decide_eq_false (by omega)
  have hh : headB a = true := by simp [headB, h1, h2, h3, hda.1, h4]
  rw [hh, Bool.true_and]
  go_enter Try.func46, Try.ntmps46
  go_wp2_with fail
  go_quiet (fail)
  go_wp2_with fail
  clear d1 d2 d3 d4 h1 h2 h3 h4 hh
  go_loopw [3, 5, 44] (fun sl _ si wr => ∃ (k : Nat) (last : Int), k ≤ n ∧ si = .int .i64 k ∧ sl = .int .i64 last ∧ Below w.heap.size w wr ∧ Hid (chainB a 0 (a :: r) = chainB a last ((a :: r).drop k))) (fun _ _ si _ => n - (intOf si).toNat)
  case atStart => exact ⟨0, 0, by omega, rfl, rfl, bdrewN (Below.refl _ _) _, rfl⟩
  case round =>
    obtain ⟨k, last, hk, rfl, rfl, hB, HC⟩ := hrel
    by_cases hlt : k < n
    · obtain ⟨b', o', he, hb', hc'⟩ := (h.below hB).at k hlt
      obtain ⟨rfl, rfl⟩ : b' = b ∧ o' = o := by injection he with he; injection he with e1 e2; exact ⟨e1.symm, e2.symm⟩
      clear he
      generalize hs : (a :: r)[k]'(by rw [h.1]; exact hlt) = s at hc'
      have HS := Lib.hid hs; clear hs
      obtain ⟨e0, e1, e2, e3, As, ns, cs, e4, hds⟩ := hc'
      have hlt2 : (k : Int) < (n : Int) := by omega
      have hk63 : (k : Int) + 1 ≤ 9223372036854775807 := by have := h.2.1; omega
      have hw : wrap64 ((k : Int) + 1) = (k : Int) + 1 := by unfold wrap64; omega
      go_wp2_with fail
      obtain ⟨f0, f1, f2, f3, f4, hbn, hlt1⟩ := share_new wr (.int .i64 s.ep) (.int .i64 s.ix) (.int .i64 s.th) (.int .i64 s.mn) (.slice As ns cs) 52
      have hbr := Nat.lt_of_lt_of_le hb hB.size
      have hBb := bthen hB hbn
      generalize hW1 : wr.alloc _ = W1 at *
      clear hW1
      have hB1 : Below w.heap.size w W1 := hBb
      generalize wr.heap.size = gn at *
      replace c2 := (hB1.cell (p := ⟨b', o' + 2, none⟩) hb).trans c2
      replace c3 := (hB1.cell (p := ⟨b', o' + 3, none⟩) hb).trans c3
      replace c4 := (hB1.cell (p := ⟨b', o' + 4, none⟩) hb).trans c4
      have hcons : (a :: r).drop k = s :: (a :: r).drop (k + 1) := by rw [← HS.out]; exact List.drop_eq_getElem_cons (by rw [h.1]; exact hlt)
      replace HC : Hid (chainB a 0 (a :: r) = chainB a last (s :: (a :: r).drop (k + 1))) := by rw [← hcons]; exact HC
      clear hcons e0 e1 e2 e3 e4 c0 c1 hbn hBb hB
      by_cases q1 : s.th = a.th
      case neg =>
        have hok : okAt a last s = false := by simp [okAt, q1]
        have d : (s.th == a.th) = false := by simp [q1]
        have d' : (s.th != a.th) = true := by simp [q1]
        clear q1
        go_wp2_with fail
        go_quiet (fail)
        go_wp2_with fail
        go_ret
        exact ⟨by rw [chain_not _ _ _ _ _ HC.out hok]; rfl, bdrewN hB1 _⟩
      rw [q1] at f2
      by_cases q2 : s.mn = a.mn
      case neg =>
        have hok : okAt a last s = false := by simp [okAt, q2]
        have d : (s.mn == a.mn) = false := by simp [q2]
        have d' : (s.mn != a.mn) = true := by simp [q2]
        clear q2
        go_wp2_with fail
        go_quiet (fail)
        go_wp2_with fail
        go_ret
        exact ⟨by rw [chain_not _ _ _ _ _ HC.out hok]; rfl, bdrewN hB1 _⟩
      rw [q2] at f3
      by_cases q3 : ns = nd
      case neg =>
        have hok : okAt a last s = false := by simp [okAt, hds.1, hda.1, q3]
        have d : ((ns : Int) == (nd : Int)) = false := by rw [beq_eq_false_iff_ne]; omega
        have d' : ((ns : Int) != (nd : Int)) = true := by rw [bne, d]; rfl
        clear q3
        go_wp2_with fail
        go_quiet (fail)
        go_wp2_with fail
        go_ret
        exact ⟨by rw [chain_not _ _ _ _ _ HC.out hok]; rfl, bdrewN hB1 _⟩
      subst q3
      by_cases q4 : last < s.ix
      case neg =>
        have hok : okAt a last s = false := by simp [okAt, q4]
        have d : s.ix ≤ last := by omega
        go_wp2_with fail
        go_quiet (fail)
        go_wp2_with fail
        go_ret
        exact ⟨by rw [chain_not _ _ _ _ _ HC.out hok]; rfl, bdrewN hB1 _⟩
      have d4 : decide (s.ix ≤ last) = false := decide_eq_false (by omega)
      by_cases q5 : s.ix ≤ a.mn
      case neg =>
        have hok : okAt a last s = false := by simp [okAt, q2, q5]
        have d : a.mn < s.ix := by omega
        go_wp2_with fail
        go_quiet (fail)
        go_wp2_with fail
        go_ret
        exact ⟨by rw [chain_not _ _ _ _ _ HC.out hok]; rfl, bdrewN hB1 _⟩
      have d5 : decide (a.mn < s.ix) = false := decide_eq_false (by omega)
      have hok : okAt a last s = true := by simp [okAt, q1, q2, q4, q5, hds.1, hda.1]
      go_wp2_with fail
      go_quiet (fail)
      go_wp2_with fail
      exact ⟨⟨k + 1, s.ix, by omega, by go_num, rfl, bdrewN hB1 _, chain_step _ _ _ _ _ HC.out hok⟩, by simp [intOf]; omega⟩
    · obtain rfl : k = n := by omega
      go_wp2_with fail
      go_ret
      refine ⟨?_, hB⟩
      rw [HC.out, List.drop_eq_nil_of_le (by rw [h.1]; exact Nat.le_refl _)]
      rfl
end Go.Proofs.Ytillfbohengpaaa

/-
  WALKS: shares.Check.
-/
set_option linter.unusedVariables false
set_option linter.unusedSimpArgs false
namespace Go.Proofs.Ytillfbohengpaaa
open Go.RowKit Gf Go.Sort
theorem alike_any {A : Option Addr} {c n : Nat} {l : List Sh} {w : World} (h : RS w A n l) :
    Calls Try.prog 46 #[.slice A n c] w fun e w' => e = .returned (.bool (alikeB l)) ∧ Below w.heap.size w w' := by
  cases l with
  | nil =>
    obtain rfl : n = 0 := by have := h.1; simpa using this.symm
    exact alike_nil A c w
  | cons a r => exact alike_u A c n a r w h
def epOk (a s : Sh) : Bool := decide (s.ep = a.ep) && decide (0 ≤ s.ep) && decide (s.ep ≤ 1048576)
def epsB (a : Sh) (l : List Sh) : Bool := l.all (epOk a)
def epR (b : Bool) : Int := if b then 0 else 81
def checkR : List Sh → Int
  | [] => 80
  | a :: r => if alikeB (a :: r) then epR (epsB a (a :: r)) else 80
theorem checkR_not (l : List Sh) (h : alikeB l = false) : checkR l = 80 := by
  cases l with
  | nil => rfl
  | cons a r => simp [checkR, h]
theorem all_not (a s : Sh) (l rest : List Sh) (h : epsB a l = epsB a (s :: rest)) (hk : epOk a s = false) : epsB a l = false := by
  rw [h]; simp [epsB, hk]
theorem all_step (a s : Sh) (l rest : List Sh) (h : epsB a l = epsB a (s :: rest)) (hk : epOk a s = true) : epsB a l = epsB a rest := by
  rw [h]; simp [epsB, hk]
set_option maxRecDepth 100000 in
set_option maxHeartbeats 2000000 in
theorem check_u {A : Option Addr} {c n : Nat} {l : List Sh} {w : World} (h : RS w A n l) :
    Calls Try.prog 27 #[.slice A n c] w fun e w' => e = .returned (.int .i64 (checkR l)) ∧ Below w.heap.size w w' := by
  cases hal : alikeB l with
  | false =>
    rw [checkR_not l hal]
    go_enter Try.func27, Try.ntmps27
    go_wp2_with fail
    refine (alike_any h).mono ?_
    rintro e w1 ⟨rfl, hb1⟩
    rw [hal]
    go_wp2_with fail
    go_ret
    exact ⟨rfl, hb1⟩
  | true =>
    cases l with
    | nil => cases hal
    | cons a r =>
      have hn0 : 0 < n := by have := h.1; simp at this; omega
      have hni : (0 : Int) < (n : Int) := by omega
      obtain ⟨b, o, rfl, hb, hc⟩ := h.at 0 hn0
      simp only [List.getElem_cons_zero, Nat.zero_mul, Nat.add_zero] at hc
      have c0 := hc.1
      clear hc
      have hR : checkR (a :: r) = epR (epsB a (a :: r)) := by simp [checkR, hal]
      rw [hR]
      clear hR
      go_enter Try.func27, Try.ntmps27
      go_wp2_with fail
      refine (alike_any h).mono ?_
      rintro e w1 ⟨rfl, hb1⟩
      rw [hal]
      clear hal
      go_wp2_with fail
      go_loopw [4, 10] (fun _ si wr => ∃ (k : Nat), k ≤ n ∧ si = .int .i64 k ∧ Below w.heap.size w wr ∧ Hid (epsB a (a :: r) = epsB a ((a :: r).drop k))) (fun _ si _ => n - (intOf si).toNat)
      case atStart => exact ⟨0, by omega, rfl, hb1, rfl⟩
      case round =>
        obtain ⟨k, hk, rfl, hB, HC⟩ := hrel
        clear hb1
        by_cases hlt : k < n
        · obtain ⟨b', o', he, hb', hc'⟩ := (h.below hB).at k hlt
          obtain ⟨rfl, rfl⟩ : b' = b ∧ o' = o := by injection he with he; injection he with e1 e2; exact ⟨e1.symm, e2.symm⟩
          clear he
          generalize hs : (a :: r)[k]'(by rw [h.1]; exact hlt) = s at hc'
          have HS := Lib.hid hs; clear hs
          obtain ⟨e0, e1, e2, e3, As, ns, cs, e4, hds⟩ := hc'
          have hlt2 : (k : Int) < (n : Int) := by omega
          have hk63 : (k : Int) + 1 ≤ 9223372036854775807 := by have := h.2.1; omega
          have hw : wrap64 ((k : Int) + 1) = (k : Int) + 1 := by unfold wrap64; omega
          go_wp2_with fail
          obtain ⟨f0, f1, f2, f3, f4, hbn, hlt1⟩ := share_new wr (.int .i64 s.ep) (.int .i64 s.ix) (.int .i64 s.th) (.int .i64 s.mn) (.slice As ns cs) 52
          have hB1 := bthen hB hbn
          generalize hW1 : wr.alloc _ = W1 at *
          clear hW1
          generalize wr.heap.size = gn at *
          have c1 := (hB1.cell (p := ⟨b', o', none⟩) hb).trans c0
          have hcons : (a :: r).drop k = s :: (a :: r).drop (k + 1) := by rw [← HS.out]; exact List.drop_eq_getElem_cons (by rw [h.1]; exact hlt)
          replace HC : Hid (epsB a (a :: r) = epsB a (s :: (a :: r).drop (k + 1))) := by rw [← hcons]; exact HC
          clear hcons e0 e1 e2 e3 e4 hbn hB
          by_cases q1 : s.ep = a.ep
          case neg =>
            have hok : epOk a s = false := by simp [epOk, q1]
            have d : (s.ep == a.ep) = false := by simp [q1]
            have d' : (s.ep != a.ep) = true := by simp [q1]
            clear q1
            go_wp2_with fail
            go_quiet (fail)
            go_wp2_with fail
            go_ret
            exact ⟨by rw [all_not _ _ _ _ HC.out hok]; rfl, bdrewN hB1 _⟩
          rw [q1] at f0
          by_cases q2 : 0 ≤ a.ep
          case neg =>
            have hok : epOk a s = false := by simp [epOk, q1, q2]
            have d : a.ep < 0 := by omega
            go_wp2_with fail
            go_quiet (fail)
            go_wp2_with fail
            go_ret
            exact ⟨by rw [all_not _ _ _ _ HC.out hok]; rfl, bdrewN hB1 _⟩
          have d2 : decide (a.ep < 0) = false := decide_eq_false (by omega)
          by_cases q3 : a.ep ≤ 1048576
          case neg =>
            have hok : epOk a s = false := by simp [epOk, q1, q3]
            have d : 1048576 < a.ep := by omega
            go_wp2_with fail
            go_quiet (fail)
            go_wp2_with fail
            go_ret
            exact ⟨by rw [all_not _ _ _ _ HC.out hok]; rfl, bdrewN hB1 _⟩
          have d3 : decide (1048576 < a.ep) = false := decide_eq_false (by omega)
          have hok : epOk a s = true := by simp [epOk, q1, q2, q3]
          go_wp2_with fail
          go_quiet (fail)
          go_wp2_with fail
          exact ⟨⟨k + 1, by omega, by go_num, bdrewN hB1 _, all_step _ _ _ _ HC.out hok⟩, by simp [intOf]; omega⟩
        · obtain rfl : k = n := by omega
          go_wp2_with fail
          go_ret
          refine ⟨?_, hB⟩
          rw [HC.out, List.drop_eq_nil_of_le (by rw [h.1]; exact Nat.le_refl _)]
          rfl
end Go.Proofs.Ytillfbohengpaaa

/-
  WALKS: testamurref08.alike.
-/
set_option linter.unusedVariables false
set_option linter.unusedSimpArgs false
namespace Go.Proofs.Ytillfbohengpaaa
open Go.RowKit Gf Go.Sort
set_option maxRecDepth 100000 in
set_option maxHeartbeats 2000000 in
theorem ralike_u (A : Option Addr) (c n : Nat) (a : Sh) (r : List Sh) (w : World) (h : RS w A n (a :: r)) :
    Calls Try.prog 47 #[.slice A n c] w fun e w' => e = .returned (.bool (headB a && chainB a 0 (a :: r))) ∧ Below w.heap.size w w' := by
  have hn0 : 0 < n := by have := h.1; simp at this; omega
  obtain ⟨b, o, rfl, hb, hc⟩ := h.at 0 hn0
  simp only [List.getElem_cons_zero, Nat.zero_mul, Nat.add_zero] at hc
  obtain ⟨c0, c1, c2, c3, Ad, nd, cd, c4, hda⟩ := hc
  have hz : ((n : Int) == 0) = false := by rw [beq_eq_false_iff_ne]; omega
  have hni : (0 : Int) < (n : Int) := by omega
  obtain ⟨F0, F1, F2, F3, F4, hBN, hltN⟩ := share_new w (.int .i64 a.ep) (.int .i64 a.ix) (.int .i64 a.th) (.int .i64 a.mn) (.slice Ad nd cd) 52
  by_cases h1 : 1 ≤ a.th
  case neg =>
    have hh : headB a = false := by simp [headB, h1]
    rw [hh]
    have d1 : a.th < 1 := by omega
    go_enter Try.func47, Try.ntmps47
    go_wp2_with fail
    go_ret
    exact ⟨rfl, hBN⟩
  have d1 : decide (a.th < 1) = false := decide_eq_false (by omega)
  by_cases h2 : a.th ≤ a.mn
  case neg =>
    have hh : headB a = false := by simp [headB, h2]
    rw [hh]
    have d2 : a.mn < a.th := by omega
    go_enter Try.func47, Try.ntmps47
    go_wp2_with fail
    go_ret
    exact ⟨rfl, hBN⟩
  have d2 : decide (a.mn < a.th) = false := decide_eq_false (by omega)
  by_cases h3 : a.mn ≤ 8
  case neg =>
    have hh : headB a = false := by simp [headB, h3]
    rw [hh]
    have d3 : 8 < a.mn := by omega
    go_enter Try.func47, Try.ntmps47
    go_wp2_with fail
    go_ret
    exact ⟨rfl, hBN⟩
  have d3 : decide (8 < a.mn) = false := decide_eq_false (by omega)
  by_cases h4 : nd ≤ 64
  case neg =>
    have hh : headB a = false := by simp [headB, hda.1, h4]
    rw [hh]
    have d4 : (64 : Int) < (nd : Int) := by omega
    go_enter Try.func47, Try.ntmps47
    go_wp2_with fail
    go_ret
    exact ⟨rfl, hBN⟩
  have d4 : decide ((64 : Int) < (nd : Int)) = false := decide_eq_false (by omega)
  have hh : headB a = true := by simp [headB, h1, h2, h3, hda.1, h4]
  rw [hh, Bool.true_and]
  go_enter Try.func47, Try.ntmps47
  go_wp2_with fail
  clear d1 d2 d3 d4 h1 h2 h3 h4 hh
  generalize hWN : w.alloc _ = WN at *
  clear hWN
  generalize hGN : w.heap.size = GN at *
  go_loopw [4, 5] (fun si _ wr => ∃ (k : Nat) (last : Int), k ≤ n ∧ si = .int .i64 k ∧ 0 ≤ last ∧ (k = 0 → last = 0) ∧ (∀ (h : 0 < k) (h2 : k - 1 < (a :: r).length), ((a :: r)[k - 1]).ix = last) ∧ Below GN w wr ∧ Below WN.heap.size WN wr ∧ Hid (chainB a 0 (a :: r) = chainB a last ((a :: r).drop k))) (fun si _ _ => n - (intOf si).toNat)
  case atStart => exact ⟨0, 0, by omega, rfl, by omega, fun _ => rfl, fun h => by omega, hBN, Below.refl _ _, rfl⟩
  case round =>
    obtain ⟨k, last, hk, rfl, hl0, hlz, hlp, hB, hBW, HC⟩ := hrel
    subst hGN
    by_cases hlt : k < n
    · obtain ⟨b', o', he, hb', hc'⟩ := (h.below hB).at k hlt
      obtain ⟨rfl, rfl⟩ : b' = b ∧ o' = o := by injection he with he; injection he with e1 e2; exact ⟨e1.symm, e2.symm⟩
      clear he
      generalize hs : (a :: r)[k]'(by rw [h.1]; exact hlt) = s at hc'
      have HS := Lib.hid hs; clear hs
      obtain ⟨e0, e1, e2, e3, As, ns, cs, e4, hds⟩ := hc'
      have hlt2 : (k : Int) < (n : Int) := by omega
      have hk63 : (k : Int) + 1 ≤ 9223372036854775807 := by have := h.2.1; omega
      have hw : wrap64 ((k : Int) + 1) = (k : Int) + 1 := by unfold wrap64; omega
      have hcons : (a :: r).drop k = s :: (a :: r).drop (k + 1) := by rw [← HS.out]; exact List.drop_eq_getElem_cons (by rw [h.1]; exact hlt)
      replace HC : Hid (chainB a 0 (a :: r) = chainB a last (s :: (a :: r).drop (k + 1))) := by rw [← hcons]; exact HC
      clear hcons
      have hprev : ∀ m, k = m + 1 → w.cell? ⟨b', o' + m * 5 + 1, none⟩ = some (.int .i64 last) := by
        intro m hm
        subst hm
        obtain ⟨b2, o2, he, hb2, hc2⟩ := h.at m (by omega)
        obtain ⟨rfl, rfl⟩ : b2 = b' ∧ o2 = o' := by injection he with he; injection he with e1 e2; exact ⟨e1.symm, e2.symm⟩
        have hi2 := hlp (by omega) (by rw [h.1]; omega)
        have h5 := hc2.2.1
        simp only [Nat.add_sub_cancel] at hi2
        rw [hi2] at h5
        exact h5
      have HL := Lib.hid hlp
      clear hlp
      go_wp2_with fail
      obtain ⟨f0, f1, f2, f3, f4, hbn, hlt1⟩ := share_new wr (.int .i64 s.ep) (.int .i64 s.ix) (.int .i64 s.th) (.int .i64 s.mn) (.slice As ns cs) 52
      have hB1 := hB.trans (hbn.mono hB.size)
      have hBW1 := bthen hBW hbn
      generalize hW1 : wr.alloc _ = W1 at *
      clear hW1
      generalize wr.heap.size = gn at *
      have G2 := (hBW1.cell (p := ⟨w.heap.size, 2, none⟩) hltN).trans F2
      have G3 := (hBW1.cell (p := ⟨w.heap.size, 3, none⟩) hltN).trans F3
      have G4 := (hBW1.cell (p := ⟨w.heap.size, 4, none⟩) hltN).trans F4
      have hprev1 : ∀ m, k = m + 1 → W1.cell? ⟨b', o' + m * 5 + 1, none⟩ = some (.int .i64 last) := fun m hm => (hB1.cell (p := ⟨b', o' + m * 5 + 1, none⟩) hb).trans (hprev m hm)
      have HP := Lib.hid hprev1
      clear hprev hprev1 e0 e1 e2 e3 e4 F0 F1 F2 F3 F4 c0 c1 c2 c3 c4 hbn hB hBW
      by_cases q1 : s.th = a.th
      case neg =>
        have hok : okAt a last s = false := by simp [okAt, q1]
        have d : (s.th == a.th) = false := by simp [q1]
        have d2 : (s.th != a.th) = true := by simp [q1]
        clear q1
        go_wp2_with fail
        go_quiet (fail)
        go_wp2_with fail
        go_ret
        exact ⟨by rw [chain_not _ _ _ _ _ HC.out hok]; rfl, bdrewN hB1 _⟩
      rw [q1] at f2
      by_cases q2 : s.mn = a.mn
      case neg =>
        have hok : okAt a last s = false := by simp [okAt, q2]
        have d : (s.mn == a.mn) = false := by simp [q2]
        have d2 : (s.mn != a.mn) = true := by simp [q2]
        clear q2
        go_wp2_with fail
        go_quiet (fail)
        go_wp2_with fail
        go_ret
        exact ⟨by rw [chain_not _ _ _ _ _ HC.out hok]; rfl, bdrewN hB1 _⟩
      rw [q2] at f3
      by_cases q3 : ns = nd
      case neg =>
        have hok : okAt a last s = false := by simp [okAt, hds.1, hda.1, q3]
        have d : ((ns : Int) == (nd : Int)) = false := by rw [beq_eq_false_iff_ne]; omega
        have d2 : ((ns : Int) != (nd : Int)) = true := by rw [bne, d]; rfl
        clear q3
        go_wp2_with fail
        go_quiet (fail)
        go_wp2_with fail
        go_ret
        exact ⟨by rw [chain_not _ _ _ _ _ HC.out hok]; rfl, bdrewN hB1 _⟩
      subst q3
      by_cases q4 : 1 ≤ s.ix
      case neg =>
        have hok : okAt a last s = false := by have : ¬ last < s.ix := by omega
                                               simp [okAt, this]
        have d : s.ix < 1 := by omega
        go_wp2_with fail
        go_quiet (fail)
        go_wp2_with fail
        go_ret
        exact ⟨by rw [chain_not _ _ _ _ _ HC.out hok]; rfl, bdrewN hB1 _⟩
      have d4 : decide (s.ix < 1) = false := decide_eq_false (by omega)
      by_cases q5 : s.ix ≤ a.mn
      case neg =>
        have hok : okAt a last s = false := by simp [okAt, q2, q5]
        have d : a.mn < s.ix := by omega
        go_wp2_with fail
        go_quiet (fail)
        go_wp2_with fail
        go_ret
        exact ⟨by rw [chain_not _ _ _ _ _ HC.out hok]; rfl, bdrewN hB1 _⟩
      have d5 : decide (a.mn < s.ix) = false := decide_eq_false (by omega)
      by_cases hk0 : 0 < k
      case neg =>
        have hok : okAt a last s = true := by
          rw [hlz (by omega)]
          have : (0 : Int) < s.ix := by omega
          simp [okAt, q1, q2, this, q5, hds.1, hda.1]
        have d0 : decide ((0 : Int) < (k : Int)) = false := decide_eq_false (by omega)
        have d0' : decide (0 < k) = false := decide_eq_false hk0
        have HK := Lib.hid hk0
        clear hk0
        go_wp2_with fail
        go_quiet (fail)
        go_wp2_with fail
        refine ⟨⟨k + 1, s.ix, by omega, by go_num, by omega, fun h => by omega, fun h1 h2 => ?_, bdrewN hB1 _, bdrewN hBW1 _, chain_step _ _ _ _ _ HC.out hok⟩, by simp [intOf]; omega⟩
        rw [← HS.out]
        rfl
      obtain ⟨m, hm⟩ : ∃ m, k = m + 1 := ⟨k - 1, by omega⟩
      have hpm := HP.out m hm
      have hmn : (m : Int) < (n : Int) := by omega
      have hmn2 : m < n := by omega
      have d0 : decide ((0 : Int) < (k : Int)) = true := decide_eq_true (by omega)
      have d0' : decide (0 < k) = true := decide_eq_true hk0
      have HW : Hid (IntKind.i64.wrap ((k : Int) - 1) = (m : Int)) := by
        show IntKind.i64.wrap ((k : Int) - 1) = (m : Int)
        rw [IntWalk.i64_in _ (by omega)]; omega
      have HM := Lib.hid hm
      clear hm hlz
      by_cases q6 : last < s.ix
      case neg =>
        have hok : okAt a last s = false := by simp [okAt, q6]
        have d : s.ix ≤ last := by omega
        have hwk := HW.out
        go_quiet (fail)
        clear hwk
        go_wp2_with fail
        go_ret
        exact ⟨by rw [chain_not _ _ _ _ _ HC.out hok]; rfl, bdrewN hB1 _⟩
      have d6 : decide (s.ix ≤ last) = false := decide_eq_false (by omega)
      have hok : okAt a last s = true := by simp [okAt, q1, q2, q6, q5, hds.1, hda.1]
      have hwk := HW.out
      go_quiet (fail)
      clear hwk
      go_wp2_with fail
      refine ⟨⟨k + 1, s.ix, by omega, by go_num, by omega, fun h => by omega, fun h1 h2 => ?_, bdrewN hB1 _, bdrewN hBW1 _, chain_step _ _ _ _ _ HC.out hok⟩, by simp [intOf]; omega⟩
      rw [← HS.out]
      rfl
    · obtain rfl : k = n := by omega
      go_wp2_with fail
      go_ret
      refine ⟨?_, hB⟩
      rw [HC.out, List.drop_eq_nil_of_le (by rw [h.1]; exact Nat.le_refl _)]
      rfl
end Go.Proofs.Ytillfbohengpaaa

/- Laid by a program of this session out of the translation (functions with their contracts). -/
namespace Go.Proofs.Ytillfbohengpaaa.PA
open Go.RowKit Go.Proofs.YtillfbohengpaaaW.PrintWords Go.Proofs.YtillfbohengpaaaW.PrintLast Go.Proofs.YtillfbohengpaaaW.PrintMore
attribute [local go_sem] max2_int min2_int max_two min_two max_three min_three max_four min_four   -- for this text's walks alone
set_option linter.unusedVariables false
set_option linter.unusedSimpArgs false

/-! ### shares_points: function 50 -/
def shares_points.l0 : Nat → Int → List Int → List Int → List (S52) → Int → Int → Option (List Int × List Int)
  | 0, _, _, _, _, _, _ => none
  | k + 1, x1, x4, x5, x8, x9, x10 => if x10 < x9 then (if 0 ≤ x10 then (if x10 < (x8.length : Int) then ((some (([((rd_T52 x8 x10).f1) % 256] : List Int) : List Int)).bind fun y196 => (if x4.length + y196.length < 140737488355328 then (if 0 ≤ x1 then (if x1 < (((rd_T52 x8 x10).f4).length : Int) then ((some (([rd ((rd_T52 x8 x10).f4) x1] : List Int) : List Int)).bind fun y203 => (if x5.length + y203.length < 140737488355328 then (shares_points.l0 k x1 (x4 ++ y196) (x5 ++ y203) x8 x9 (wrap64 (x10 + 1))) else (none))) else (none)) else (none)) else (none))) else (none)) else (none)) else (some (x4, x5))
def shares_points.f (k : Nat) (l0 : List (S52)) (a1 : Int) : Option (List Int × List Int) := shares_points.l0 k a1 ([] : List Int) ([] : List Int) l0 (l0.length : Int) 0
theorem shares_points.mono_l : ∀ k, (∀ y0 y1 y2 y3 y4 y5, LeO (shares_points.l0 k y0 y1 y2 y3 y4 y5) (shares_points.l0 (k + 1) y0 y1 y2 y3 y4 y5))
  | 0 => fun _ _ _ _ _ _ r h => by simp [shares_points.l0] at h
  | k + 1 => by
    have ih0 := shares_points.mono_l k
    · intro y0 y1 y2 y3 y4 y5
      unfold shares_points.l0
      repeat' first
      | (with_reducible exact ih0 _ _ _ _ _ _)
      | (with_reducible exact LeO.refl _)
      | (with_reducible exact LeO.none _)
      | (with_reducible refine LeO.ite ?_ ?_)
      | (with_reducible refine LeO.bind ?_ (fun _ => ?_))
      | exact ih0 _ _ _ _ _ _
      | exact LeO.none _
      | refine LeO.ite ?_ ?_
      | refine LeO.bind ?_ (fun _ => ?_)
theorem shares_points.mono : ∀ a0 a1 k, LeO (shares_points.f k a0 a1) (shares_points.f (k + 1) a0 a1) := by
  intro a0 a1 k
  have ih0 := shares_points.mono_l k
  unfold shares_points.f
  repeat' first
      | (with_reducible exact ih0 _ _ _ _ _ _)
      | (with_reducible exact LeO.refl _)
      | (with_reducible exact LeO.none _)
      | (with_reducible refine LeO.ite ?_ ?_)
      | (with_reducible refine LeO.bind ?_ (fun _ => ?_))
      | exact ih0 _ _ _ _ _ _
      | exact LeO.none _
      | refine LeO.ite ?_ ?_
      | refine LeO.bind ?_ (fun _ => ?_)
def shares_points.T4 : Bool × List (List Nat × List Nat) := (true, [([], []), ([], []), ([1], [1]), ([2], [2]), ([3], [3]), ([0, 4], [0, 4]), ([], []), ([], []), ([7], [7]), ([], []), ([8, 9], [8, 9]), ([10], [10]), ([11], [11]), ([6, 12, 5], [6, 12]), ([5, 13, 0, 1, 2, 3, 4, 5], [0, 5]), ([13, 14, 0, 1, 2, 3, 4, 5, 6, 7, 8, 9, 10, 11, 12, 13, 14], [6, 13])])
def shares_points.B4 : List Nat := [0, 0, 2, 6, 14, 31, 0, 0, 128, 0, 896, 1920, 3968, 8191, 16383, 32767]
theorem shares_points.tab4 : rtab .any (opsOf Try.f50 4) = shares_points.T4 := by kernel_rfl
theorem shares_points.bits4 : waitsOk shares_points.T4.2 shares_points.B4 = true := by kernel_rfl
set_option maxHeartbeats 8000000 in
set_option maxRecDepth 100000 in
theorem shares_points.calls (k : Nat) (A0 : Option Addr) (c0 : Nat) (l0 : List (S52)) (a1 : Int) (r1 : List Int) (r2 : List Int) (w : World) (hr0 : Kd.C k52 w A0 l0.length l0) (hc0 : l0.length ≤ c0) (h : shares_points.f k l0 a1 = some (r1, r2)) :
    Calls Try.prog 50 #[.slice A0 l0.length c0, .int .i64 a1] w fun e w' => ∃ v0_ v1_ : Value, e = .returned (.tuple #[v0_, v1_]) ∧ Kd.R (Kd.int .u8) 5 w' w.heap.size (fun k_ => some k_ ≠ (v1_ : Value).ownBlock) v0_ r1 ∧ Kd.R (Kd.int .u8) 5 w' w.heap.size (fun k_ => some k_ ≠ (v0_ : Value).ownBlock) v1_ r2 ∧ Below w.heap.size w w' := by
  have hu52 := Try.underlying52
  have HR0 := Aside0.mk hr0
  have HC0 := Aside0.mk hc0
  clear hr0 hc0
  have HB := Aside0.mk (Below.refl w.heap.size w)
  have H : (shares_points.l0 k a1 ([] : List Int) ([] : List Int) l0 (l0.length : Int) 0) = some (r1, r2) := h
  clear h
  have H' := Aside0.mk H
  clear H
  go_enter Try.func50, Try.ntmps50
  go_wp2
  go_loopg [4, 5, 10] k (fun kq v4 v5 v10 w' => ∃ (x4_1 : List Int) (x5_1 : List Int) (x10_1 : Int), v10 = .int .i64 x10_1 ∧ Aside0 (shares_points.l0 kq a1 x4_1 x5_1 l0 (l0.length : Int) x10_1 = some (r1, r2)) ∧ Aside0 (kq ≤ k) ∧ Aside0 (Kd.R (Kd.int .u8) 5 w' w.heap.size (fun k_ => some k_ ≠ (v5 : Value).ownBlock) v4 x4_1) ∧ Aside0 (Kd.R (Kd.int .u8) 5 w' w.heap.size (fun k_ => some k_ ≠ (v4 : Value).ownBlock) v5 x5_1) ∧ Aside0 (Below w.heap.size w w'))
  case atStart => exact ⟨(([] : List Int)), (([] : List Int)), (0), (by first | rfl | (simp; done) | (simp [*]; done)), H', ⟨Nat.le_refl _⟩, ⟨by first | exact Kd.R_nil _ _ _ _ _ | exact Kd.N_nil _ _ _ _ _ | exact Kd.V_nil _ _ _ _ _ | exact Kd.Q_nil _ _ _ _ _ | exact Kd.S_nil _ _ _ _ _⟩, ⟨by first | exact Kd.R_nil _ _ _ _ _ | exact Kd.N_nil _ _ _ _ _ | exact Kd.V_nil _ _ _ _ _ | exact Kd.Q_nil _ _ _ _ _ | exact Kd.S_nil _ _ _ _ _⟩, ⟨by repeat (first | (with_reducible first | exact HB.out | apply below_alloc | apply pw_below_drewN | apply below_drew1) | exact HB.out)⟩⟩
  case round =>
    clear H'
    try clear p2
    obtain ⟨x4_1, x5_1, x10_1, rfl, HA, HK1, HO_4, HO_5, HB⟩ := hrel
    cases gk with
    | zero => exact absurd HA.out (by simp [shares_points.l0])
    | succ k1 =>
      have H := HA.out
      clear HA
      simp only [shares_points.l0] at H
      by_cases c3 : x10_1 < (l0.length : Int)
      · rw [if_pos c3] at H
        have c3b0 : decide (x10_1 < (l0.length : Int)) = true := decide_eq_true c3
        clear c3
        by_cases c4 : 0 ≤ x10_1
        · rw [if_pos c4] at H
          have c4b0 : decide (0 ≤ x10_1) = true := decide_eq_true c4
          clear c4
          by_cases c5 : x10_1 < (l0.length : Int)
          · rw [if_pos c5] at H
            have c5b0 : decide (x10_1 < (l0.length : Int)) = true := decide_eq_true c5
            clear c5
            obtain ⟨y196, hy196⟩ : ∃ y_ : List Int, y_ = (([((rd_T52 l0 x10_1).f1) % 256] : List Int)) := ⟨_, rfl⟩
            replace H : (if x4_1.length + y196.length < 140737488355328 then (if 0 ≤ a1 then (if a1 < (((rd_T52 l0 x10_1).f4).length : Int) then ((some (([rd ((rd_T52 l0 x10_1).f4) a1] : List Int) : List Int)).bind fun y203 => (if x5_1.length + y203.length < 140737488355328 then (shares_points.l0 k1 a1 (x4_1 ++ y196) (x5_1 ++ y203) l0 (l0.length : Int) (wrap64 (x10_1 + 1))) else (none))) else (none)) else (none)) else (none)) = some (r1, r2) := by first | (rw [hy196]; with_reducible exact H) | (have H2_ := (Option.bind_some _ _).symm.trans H; rw [hy196]; with_reducible exact H2_) | (have H2_ := (Option.bind_some _ _).symm.trans H; with_reducible exact H2_) | with_reducible exact H | (rw [hy196]; exact H) | exact H
            have Ny196 := Aside0.mk hy196
            clear hy196
            by_cases c6 : x4_1.length + y196.length < 140737488355328
            · rw [if_pos c6] at H
              have LMc6 := Aside0.mk c6
              clear c6
              obtain ⟨y199, hy199⟩ : ∃ y_ : List Int, y_ = (x4_1 ++ y196) := ⟨_, rfl⟩
              replace H : (if 0 ≤ a1 then (if a1 < (((rd_T52 l0 x10_1).f4).length : Int) then ((some (([rd ((rd_T52 l0 x10_1).f4) a1] : List Int) : List Int)).bind fun y203 => (if x5_1.length + y203.length < 140737488355328 then (shares_points.l0 k1 a1 y199 (x5_1 ++ y203) l0 (l0.length : Int) (wrap64 (x10_1 + 1))) else (none))) else (none)) else (none)) = some (r1, r2) := by first | (rw [hy199]; with_reducible exact H) | (have H2_ := (Option.bind_some _ _).symm.trans H; rw [hy199]; with_reducible exact H2_) | (have H2_ := (Option.bind_some _ _).symm.trans H; with_reducible exact H2_) | with_reducible exact H | (rw [hy199]; exact H) | exact H
              have Ny199 := Aside0.mk hy199
              clear hy199
              by_cases c7 : 0 ≤ a1
              · rw [if_pos c7] at H
                have c7b0 : decide (0 ≤ a1) = true := decide_eq_true c7
                clear c7
                by_cases c8 : a1 < (((rd_T52 l0 x10_1).f4).length : Int)
                · rw [if_pos c8] at H
                  have c8b0 : decide (a1 < (((rd_T52 l0 x10_1).f4).length : Int)) = true := decide_eq_true c8
                  clear c8
                  obtain ⟨y203, hy203⟩ : ∃ y_ : List Int, y_ = (([rd ((rd_T52 l0 x10_1).f4) a1] : List Int)) := ⟨_, rfl⟩
                  replace H : (if x5_1.length + y203.length < 140737488355328 then (shares_points.l0 k1 a1 y199 (x5_1 ++ y203) l0 (l0.length : Int) (wrap64 (x10_1 + 1))) else (none)) = some (r1, r2) := by first | (rw [hy203]; with_reducible exact H) | (have H2_ := (Option.bind_some _ _).symm.trans H; rw [hy203]; with_reducible exact H2_) | (have H2_ := (Option.bind_some _ _).symm.trans H; with_reducible exact H2_) | with_reducible exact H | (rw [hy203]; exact H) | exact H
                  have Ny203 := Aside0.mk hy203
                  clear hy203
                  by_cases c9 : x5_1.length + y203.length < 140737488355328
                  · rw [if_pos c9] at H
                    have LMc9 := Aside0.mk c9
                    clear c9
                    obtain ⟨y206, hy206⟩ : ∃ y_ : List Int, y_ = (x5_1 ++ y203) := ⟨_, rfl⟩
                    replace H : (shares_points.l0 k1 a1 y199 y206 l0 (l0.length : Int) (wrap64 (x10_1 + 1))) = some (r1, r2) := by first | (rw [hy206]; with_reducible exact H) | (have H2_ := (Option.bind_some _ _).symm.trans H; rw [hy206]; with_reducible exact H2_) | (have H2_ := (Option.bind_some _ _).symm.trans H; with_reducible exact H2_) | with_reducible exact H | (rw [hy206]; exact H) | exact H
                    have Ny206 := Aside0.mk hy206
                    clear hy206
                    have H' := Aside0.mk H
                    clear H
                    have p194 : 0 ≤ (x10_1 : Int) := of_decide_eq_true (by first | (with_reducible assumption) | assumption)
                    have q194 : x10_1 < (l0.length : Int) := of_decide_eq_true (by first | (with_reducible assumption) | assumption)
                    obtain ⟨ad194, A194_4, c194_4, e194, hx194_0, hx194_1, hx194_2, hx194_3, hx194_4, hl194_4, hi194_4⟩ := at_T52 HR0.out x10_1 p194 q194
                    cases e194
                    replace hx194_0 := (HB.out.cell (World.block_lt_of_cell? w _ hx194_0)).trans hx194_0
                    replace hx194_1 := (HB.out.cell (World.block_lt_of_cell? w _ hx194_1)).trans hx194_1
                    replace hx194_2 := (HB.out.cell (World.block_lt_of_cell? w _ hx194_2)).trans hx194_2
                    replace hx194_3 := (HB.out.cell (World.block_lt_of_cell? w _ hx194_3)).trans hx194_3
                    replace hx194_4 := (HB.out.cell (World.block_lt_of_cell? w _ hx194_4)).trans hx194_4
                    have HR194_4 := Aside0.mk hi194_4
                    have HC194_4 := Aside0.mk hl194_4
                    clear hi194_4 hl194_4
                    replace p194 := eq_true p194
                    replace q194 := eq_true q194
                    try go_wp2_with (first | ((with_reducible refine gate_dst (N := 7) rfl ?_); refine box_event ?hg (N := 7) ?hd (cs := #[.int .i64 0, .int .i64 0, .int .i64 0, .int .i64 0, .slice none 0 0]) (t := 52) ?hr ?_; (case hd => rfl); (case hg => rfl); (case hr => first | (go_simp; done) | (go_simp; rfl)); intro gb195 hg w10 hbox hb; have n0_ := Aside0.mk (Kd.R_below (by (with_reducible repeat (first | apply Kd.R_alloc | apply Kd.R_drewN | apply Kd.R_drew)); exact HO_4.out) hb); have n1_ := Aside0.mk (Kd.R_below (by (with_reducible repeat (first | apply Kd.R_alloc | apply Kd.R_drewN | apply Kd.R_drew)); exact HO_5.out) hb); have n2_ := Aside0.mk (below_step (by repeat (first | (with_reducible first | exact HB.out | apply below_alloc | apply pw_below_drewN | apply below_drew1) | exact HB.out)) hb); have n3_ := Aside0.mk (hbox); have n4_ := Aside0.mk ((by rw [hg]; exact (below_size (by repeat (first | (with_reducible first | exact HB.out | apply below_alloc | apply pw_below_drewN | apply below_drew1) | exact HB.out))) : w.heap.size ≤ gb195)); have n5_ := Aside0.mk ((by rw [hg]; exact (below_size (by repeat (first | (with_reducible first | exact HB.out | apply below_alloc | apply pw_below_drewN | apply below_drew1) | exact HB.out))) : w.heap.size ≤ gb195)); clear HO_4; clear HO_5; clear HB; have HO_4 := n0_; have HO_5 := n1_; have HB := n2_; have BK195 := n3_; have GW195 := n4_; have GE195 := n5_; clear n0_ n1_ n2_ n3_ n4_ n5_; clear hb hbox hg; have hcz11_0 : w10.cell? ⟨gb195, 0, none⟩ = some (.int .i64 0) := (blk_cell BK195.out 0).trans rfl; have hcz11_1 : w10.cell? ⟨gb195, 1, none⟩ = some (.int .i64 0) := (blk_cell BK195.out 1).trans rfl; have hcz11_2 : w10.cell? ⟨gb195, 2, none⟩ = some (.int .i64 0) := (blk_cell BK195.out 2).trans rfl; have hcz11_3 : w10.cell? ⟨gb195, 3, none⟩ = some (.int .i64 0) := (blk_cell BK195.out 3).trans rfl; have hcz11_4 : w10.cell? ⟨gb195, 4, none⟩ = some (.slice none 0 0) := (blk_cell BK195.out 4).trans rfl; have hfz11_0 := blk_frozen BK195.out 0; have hfz11_1 := blk_frozen BK195.out 1; have hfz11_2 := blk_frozen BK195.out 2; have hfz11_3 := blk_frozen BK195.out 3; have hfz11_4 := blk_frozen BK195.out 4; obtain ⟨Ao12, co12, eo12⟩ := Kd.R_slice HO_4.out; subst eo12; obtain ⟨Ao13, co13, eo13⟩ := Kd.R_slice HO_5.out; subst eo13))
                    have n0_ : Aside0 (Kd.R (Kd.int .u8) 5 (((((w10.setCell ⟨gb195, 0, none⟩ (.int .i64 ((rd_T52 l0 x10_1).f0))).setCell ⟨gb195, 1, none⟩ (.int .i64 ((rd_T52 l0 x10_1).f1))).setCell ⟨gb195, 2, none⟩ (.int .i64 ((rd_T52 l0 x10_1).f2))).setCell ⟨gb195, 3, none⟩ (.int .i64 ((rd_T52 l0 x10_1).f3))).setCell ⟨gb195, 4, none⟩ (.slice A194_4 ((rd_T52 l0 x10_1).f4).length c194_4)) w.heap.size (fun k_ => some k_ ≠ (.slice Ao13 x5_1.length co13 : Value).ownBlock) (.slice Ao12 x4_1.length co12) x4_1) := ⟨by (with_reducible repeat (first | apply Kd.R_alloc | apply Kd.R_drewN | apply Kd.R_drew)); exact Kd.R_mono (Kd.R_far (p := ⟨gb195, 4, none⟩) (Kd.R_far (p := ⟨gb195, 3, none⟩) (Kd.R_far (p := ⟨gb195, 2, none⟩) (Kd.R_far (p := ⟨gb195, 1, none⟩) (Kd.R_far (p := ⟨gb195, 0, none⟩) (Kd.R_types HO_4.out BK195.out (by decide)) (fun _ hk => hk.2) (.int .i64 ((rd_T52 l0 x10_1).f0))) (fun _ hk => hk.2) (.int .i64 ((rd_T52 l0 x10_1).f1))) (fun _ hk => hk.2) (.int .i64 ((rd_T52 l0 x10_1).f2))) (fun _ hk => hk.2) (.int .i64 ((rd_T52 l0 x10_1).f3))) (fun _ hk => hk.2) (.slice A194_4 ((rd_T52 l0 x10_1).f4).length c194_4)) (fun _ hk => hk.1)⟩
                    have n1_ : Aside0 (Kd.R (Kd.int .u8) 5 (((((w10.setCell ⟨gb195, 0, none⟩ (.int .i64 ((rd_T52 l0 x10_1).f0))).setCell ⟨gb195, 1, none⟩ (.int .i64 ((rd_T52 l0 x10_1).f1))).setCell ⟨gb195, 2, none⟩ (.int .i64 ((rd_T52 l0 x10_1).f2))).setCell ⟨gb195, 3, none⟩ (.int .i64 ((rd_T52 l0 x10_1).f3))).setCell ⟨gb195, 4, none⟩ (.slice A194_4 ((rd_T52 l0 x10_1).f4).length c194_4)) w.heap.size (fun k_ => some k_ ≠ (.slice Ao12 x4_1.length co12 : Value).ownBlock) (.slice Ao13 x5_1.length co13) x5_1) := ⟨by (with_reducible repeat (first | apply Kd.R_alloc | apply Kd.R_drewN | apply Kd.R_drew)); exact Kd.R_mono (Kd.R_far (p := ⟨gb195, 4, none⟩) (Kd.R_far (p := ⟨gb195, 3, none⟩) (Kd.R_far (p := ⟨gb195, 2, none⟩) (Kd.R_far (p := ⟨gb195, 1, none⟩) (Kd.R_far (p := ⟨gb195, 0, none⟩) (Kd.R_types HO_5.out BK195.out (by decide)) (fun _ hk => hk.2) (.int .i64 ((rd_T52 l0 x10_1).f0))) (fun _ hk => hk.2) (.int .i64 ((rd_T52 l0 x10_1).f1))) (fun _ hk => hk.2) (.int .i64 ((rd_T52 l0 x10_1).f2))) (fun _ hk => hk.2) (.int .i64 ((rd_T52 l0 x10_1).f3))) (fun _ hk => hk.2) (.slice A194_4 ((rd_T52 l0 x10_1).f4).length c194_4)) (fun _ hk => hk.1)⟩
                    have n2_ : Aside0 ((((((w10.setCell ⟨gb195, 0, none⟩ (.int .i64 ((rd_T52 l0 x10_1).f0))).setCell ⟨gb195, 1, none⟩ (.int .i64 ((rd_T52 l0 x10_1).f1))).setCell ⟨gb195, 2, none⟩ (.int .i64 ((rd_T52 l0 x10_1).f2))).setCell ⟨gb195, 3, none⟩ (.int .i64 ((rd_T52 l0 x10_1).f3))).setCell ⟨gb195, 4, none⟩ (.slice A194_4 ((rd_T52 l0 x10_1).f4).length c194_4)).heap[gb195]? = some (.cells #[.int .i64 ((rd_T52 l0 x10_1).f0), .int .i64 ((rd_T52 l0 x10_1).f1), .int .i64 ((rd_T52 l0 x10_1).f2), .int .i64 ((rd_T52 l0 x10_1).f3), .slice A194_4 ((rd_T52 l0 x10_1).f4).length c194_4] 52 (0, 0))) := ⟨by (with_reducible repeat (first | refine blk_drewN ?_ _ | refine blk_drew ?_ | refine blk_alloc ?_ _)); refine blk_put (cs := #[.int .i64 ((rd_T52 l0 x10_1).f0), .int .i64 ((rd_T52 l0 x10_1).f1), .int .i64 ((rd_T52 l0 x10_1).f2), .int .i64 ((rd_T52 l0 x10_1).f3), .slice none 0 0]) ?_ 4 _ rfl; (with_reducible repeat (first | refine blk_drewN ?_ _ | refine blk_drew ?_ | refine blk_alloc ?_ _)); refine blk_put (cs := #[.int .i64 ((rd_T52 l0 x10_1).f0), .int .i64 ((rd_T52 l0 x10_1).f1), .int .i64 ((rd_T52 l0 x10_1).f2), .int .i64 0, .slice none 0 0]) ?_ 3 _ rfl; (with_reducible repeat (first | refine blk_drewN ?_ _ | refine blk_drew ?_ | refine blk_alloc ?_ _)); refine blk_put (cs := #[.int .i64 ((rd_T52 l0 x10_1).f0), .int .i64 ((rd_T52 l0 x10_1).f1), .int .i64 0, .int .i64 0, .slice none 0 0]) ?_ 2 _ rfl; (with_reducible repeat (first | refine blk_drewN ?_ _ | refine blk_drew ?_ | refine blk_alloc ?_ _)); refine blk_put (cs := #[.int .i64 ((rd_T52 l0 x10_1).f0), .int .i64 0, .int .i64 0, .int .i64 0, .slice none 0 0]) ?_ 1 _ rfl; (with_reducible repeat (first | refine blk_drewN ?_ _ | refine blk_drew ?_ | refine blk_alloc ?_ _)); refine blk_put (cs := #[.int .i64 0, .int .i64 0, .int .i64 0, .int .i64 0, .slice none 0 0]) ?_ 0 _ rfl; (with_reducible repeat (first | refine blk_drewN ?_ _ | refine blk_drew ?_ | refine blk_alloc ?_ _)); exact BK195.out⟩
                    have n3_ : Aside0 (Below w.heap.size w (((((w10.setCell ⟨gb195, 0, none⟩ (.int .i64 ((rd_T52 l0 x10_1).f0))).setCell ⟨gb195, 1, none⟩ (.int .i64 ((rd_T52 l0 x10_1).f1))).setCell ⟨gb195, 2, none⟩ (.int .i64 ((rd_T52 l0 x10_1).f2))).setCell ⟨gb195, 3, none⟩ (.int .i64 ((rd_T52 l0 x10_1).f3))).setCell ⟨gb195, 4, none⟩ (.slice A194_4 ((rd_T52 l0 x10_1).f4).length c194_4))) := ⟨by repeat (first | (with_reducible first | exact HB.out | apply below_alloc | apply pw_below_drewN | apply below_drew1 | refine below_set ?_ GE195.out) | exact HB.out)⟩
                    (try clear HO_4)
                    (try clear HO_5)
                    (try clear BK195)
                    (try clear HB)
                    generalize (((((w10.setCell ⟨gb195, 0, none⟩ (.int .i64 ((rd_T52 l0 x10_1).f0))).setCell ⟨gb195, 1, none⟩ (.int .i64 ((rd_T52 l0 x10_1).f1))).setCell ⟨gb195, 2, none⟩ (.int .i64 ((rd_T52 l0 x10_1).f2))).setCell ⟨gb195, 3, none⟩ (.int .i64 ((rd_T52 l0 x10_1).f3))).setCell ⟨gb195, 4, none⟩ (.slice A194_4 ((rd_T52 l0 x10_1).f4).length c194_4)) = w14 at n0_ n1_ n2_ n3_ ⊢
                    have HO_4 := n0_
                    have HO_5 := n1_
                    have BK195 := n2_
                    have HB := n3_
                    clear n0_ n1_ n2_ n3_
                    have n0_ := Aside0.mk (Kd.R_drew HO_4.out)
                    have n1_ := Aside0.mk (Kd.R_drew HO_5.out)
                    have n2_ := Aside0.mk (blk_drew BK195.out)
                    have n3_ := Aside0.mk (below_drew1 HB.out)
                    clear HO_4
                    clear HO_5
                    clear BK195
                    clear HB
                    have HO_4 := n0_
                    have HO_5 := n1_
                    have BK195 := n2_
                    have HB := n3_
                    clear n0_ n1_ n2_ n3_
                    have p202 : 0 ≤ (a1 : Int) := of_decide_eq_true (by first | (with_reducible assumption) | assumption)
                    have q202 : a1 < (((rd_T52 l0 x10_1).f4).length : Int) := of_decide_eq_true (by first | (with_reducible assumption) | assumption)
                    obtain ⟨ad202, e202, hx202_0⟩ := Kd.at_int HR194_4.out a1 p202 q202
                    have hw202_0 := hx202_0
                    cases e202
                    replace hx202_0 := (HB.out.cell (World.block_lt_of_cell? w _ hx202_0)).trans hx202_0
                    replace p202 := eq_true p202
                    replace q202 := eq_true q202
                    refine start_ (n := 16) (S := fun w' => w'.cell? ⟨gb195, 0, none⟩ = some (.int .i64 ((rd_T52 l0 x10_1).f0)) ∧ w'.cell? ⟨gb195, 1, none⟩ = some (.int .i64 ((rd_T52 l0 x10_1).f1)) ∧ w'.cell? ⟨gb195, 2, none⟩ = some (.int .i64 ((rd_T52 l0 x10_1).f2)) ∧ w'.cell? ⟨gb195, 3, none⟩ = some (.int .i64 ((rd_T52 l0 x10_1).f3)) ∧ w'.cell? ⟨gb195, 4, none⟩ = some (.slice (some ad202) ((rd_T52 l0 x10_1).f4).length c194_4) ∧ w'.cell? (ad202.add (a1).toNat) = some (.int .u8 (rd ((rd_T52 l0 x10_1).f4) a1))) (ds := []) #[false, false, false, false, false, false, false, false, false, false, false, false, false, false, false, false] (by kernel_rfl) rfl rfl ⟨(blk_cell BK195.out 0).trans rfl, (blk_cell BK195.out 1).trans rfl, (blk_cell BK195.out 2).trans rfl, (blk_cell BK195.out 3).trans rfl, (blk_cell BK195.out 4).trans rfl, ((HB.out.cell (World.block_lt_of_cell? w _ hw202_0)).trans hw202_0)⟩ (fun hHeld => ?_); refine with_tabW shares_points.tab4 shares_points.bits4 (fun HT_ HW_ => ?_)
                    generalize w14.drew = w15 at HO_4 HO_5 BK195 HB hx202_0 hHeld ⊢
                    refine pure_ (i := 0) (N := some 14) (v := ?_) (a' := ?_) #[true, false, false, false, false, false, false, false, false, false, false, false, false, false, false, false] rfl rfl (any_of HT_.out (by kernel_rfl)) (fun _ _ _ h => h) (Or.inl ⟨by rfl, ?_⟩) ?_ ?_
                    rotate_left
                    · intro w'
                      go_simp
                      with_reducible rfl
                    rotate_left
                    · simp only [Act.put, List.setIfInBounds_toArray, List.set_cons_zero, List.set_cons_succ, i64_w, i32_w]
                      rfl
                    refine pure_ (i := 1) (N := some 15) (v := ?_) (a' := ?_) #[true, true, false, false, false, false, false, false, false, false, false, false, false, false, false, false] rfl rfl (any_of HT_.out (by kernel_rfl)) (fun _ _ _ h => h) (Or.inl ⟨by rfl, ?_⟩) ?_ ?_
                    rotate_left
                    · intro w'
                      go_simp
                      with_reducible rfl
                    rotate_left
                    · simp only [Act.put, List.setIfInBounds_toArray, List.set_cons_zero, List.set_cons_succ, i64_w, i32_w]
                      rfl
                    refine pure_ (i := 6) (N := some 20) (v := ?_) (a' := ?_) #[true, true, false, false, false, false, true, false, false, false, false, false, false, false, false, false] rfl rfl (any_of HT_.out (by kernel_rfl)) (fun _ _ _ h => h) (Or.inl ⟨by rfl, ?_⟩) ?_ ?_
                    rotate_left
                    · intro w'
                      go_simp
                      with_reducible rfl
                    rotate_left
                    · simp only [Act.put, List.setIfInBounds_toArray, List.set_cons_zero, List.set_cons_succ, i64_w, i32_w]
                      rfl
                    refine pure_ (i := 7) (N := some 21) (v := ?_) (a' := ?_) #[true, true, false, false, false, false, true, true, false, false, false, false, false, false, false, false] rfl rfl (any_of HT_.out (by kernel_rfl)) (fun _ _ _ h => h) (Or.inl ⟨by rfl, ?_⟩) ?_ ?_
                    rotate_left
                    · intro w'
                      go_simp
                      with_reducible rfl
                    rotate_left
                    · simp only [Act.put, List.setIfInBounds_toArray, List.set_cons_zero, List.set_cons_succ, i64_w, i32_w]
                      rfl
                    refine pure_ (i := 9) (N := some 23) (v := ?_) (a' := ?_) #[true, true, false, false, false, false, true, true, false, true, false, false, false, false, false, false] rfl rfl (any_of HT_.out (by kernel_rfl)) (fun _ _ _ h => h) (Or.inl ⟨by rfl, ?_⟩) ?_ ?_
                    rotate_left
                    · intro w'
                      go_simp
                      with_reducible rfl
                    rotate_left
                    · simp only [Act.put, List.setIfInBounds_toArray, List.set_cons_zero, List.set_cons_succ, i64_w, i32_w]
                      rfl
                    refine take_ (i := 2) (N := some 16) (v := ?_) (a' := ?_) #[true, true, true, false, false, false, true, true, false, true, false, false, false, false, false, false] rfl rfl (take_ofW HT_.out HW_.out (by kernel_rfl)) (fun _ _ _ h => h) (Or.inl ⟨by rfl, ?_⟩) hHeld ?_ ?_
                    rotate_left
                    · rintro w' ⟨s0, s1, s2, s3, s4, s5⟩
                      go_simp
                      with_reducible rfl
                    rotate_left
                    · simp only [Act.put, List.setIfInBounds_toArray, List.set_cons_zero, List.set_cons_succ, i64_w, i32_w]
                      rfl
                    refine pure_ (i := 3) (N := some 17) (v := ?_) (a' := ?_) #[true, true, true, true, false, false, true, true, false, true, false, false, false, false, false, false] rfl rfl (any_of HT_.out (by kernel_rfl)) (fun _ _ _ h => h) (Or.inl ⟨by rfl, ?_⟩) ?_ ?_
                    rotate_left
                    · intro w'
                      go_simp
                      with_reducible rfl
                    rotate_left
                    · simp only [Act.put, List.setIfInBounds_toArray, List.set_cons_zero, List.set_cons_succ, i64_w, i32_w]
                      rfl
                    refine take_ (i := 8) (N := some 22) (v := ?_) (a' := ?_) #[true, true, true, true, false, false, true, true, true, true, false, false, false, false, false, false] rfl rfl (take_ofW HT_.out HW_.out (by kernel_rfl)) (fun _ _ _ h => h) (Or.inl ⟨by rfl, ?_⟩) hHeld ?_ ?_
                    rotate_left
                    · rintro w' ⟨s0, s1, s2, s3, s4, s5⟩
                      go_simp
                      with_reducible rfl
                    rotate_left
                    · simp only [Act.put, List.setIfInBounds_toArray, List.set_cons_zero, List.set_cons_succ, i64_w, i32_w]
                      rfl
                    refine pure_ (i := 10) (N := some 24) (v := ?_) (a' := ?_) #[true, true, true, true, false, false, true, true, true, true, true, false, false, false, false, false] rfl rfl (any_of HT_.out (by kernel_rfl)) (fun _ _ _ h => h) (Or.inl ⟨by rfl, ?_⟩) ?_ ?_
                    rotate_left
                    · intro w'
                      go_simp
                      with_reducible rfl
                    rotate_left
                    · simp only [Act.put, List.setIfInBounds_toArray, List.set_cons_zero, List.set_cons_succ, i64_w, i32_w]
                      rfl
                    refine take_ (i := 11) (N := some 25) (v := ?_) (a' := ?_) #[true, true, true, true, false, false, true, true, true, true, true, true, false, false, false, false] rfl rfl (take_ofW HT_.out HW_.out (by kernel_rfl)) (fun _ _ _ h => h) (Or.inl ⟨by rfl, ?_⟩) hHeld ?_ ?_
                    rotate_left
                    · rintro w' ⟨s0, s1, s2, s3, s4, s5⟩
                      go_simp
                      with_reducible rfl
                    rotate_left
                    · simp only [Act.put, List.setIfInBounds_toArray, List.set_cons_zero, List.set_cons_succ, i64_w, i32_w]
                      rfl
                    refine join_ (σ := Value × Value × Value) 3 #[true, true, true, true, true, true, true, true, true, true, true, true, true, false, false, false] (fun s_ => [(18, s_.1), (19, s_.2.1), (26, s_.2.2)]) (fun s_ w' => (w'.cell? ⟨gb195, 0, none⟩ = some (.int .i64 ((rd_T52 l0 x10_1).f0)) ∧ w'.cell? ⟨gb195, 1, none⟩ = some (.int .i64 ((rd_T52 l0 x10_1).f1)) ∧ w'.cell? ⟨gb195, 2, none⟩ = some (.int .i64 ((rd_T52 l0 x10_1).f2)) ∧ w'.cell? ⟨gb195, 3, none⟩ = some (.int .i64 ((rd_T52 l0 x10_1).f3)) ∧ w'.cell? ⟨gb195, 4, none⟩ = some (.slice (some ad202) ((rd_T52 l0 x10_1).f4).length c194_4) ∧ w'.cell? (ad202.add (a1).toNat) = some (.int .u8 (rd ((rd_T52 l0 x10_1).f4) a1))) ∧ (Kd.R (Kd.int .u8) 5 w' w.heap.size (fun k_ => some k_ ≠ (s_.2.1 : Value).ownBlock ∧ some k_ ≠ (s_.2.2 : Value).ownBlock ∧ some k_ ≠ (.slice Ao13 x5_1.length co13 : Value).ownBlock) s_.1 y196) ∧ (Kd.R (Kd.int .u8) 5 w' w.heap.size (fun k_ => some k_ ≠ (s_.1 : Value).ownBlock ∧ some k_ ≠ (s_.2.2 : Value).ownBlock ∧ some k_ ≠ (.slice Ao13 x5_1.length co13 : Value).ownBlock) s_.2.1 y199) ∧ (Kd.R (Kd.int .u8) 5 w' w.heap.size (fun k_ => some k_ ≠ (s_.1 : Value).ownBlock ∧ some k_ ≠ (s_.2.1 : Value).ownBlock ∧ some k_ ≠ (.slice Ao13 x5_1.length co13 : Value).ownBlock) s_.2.2 y203) ∧ (Kd.R (Kd.int .u8) 5 w' w.heap.size (fun k_ => some k_ ≠ (s_.1 : Value).ownBlock ∧ some k_ ≠ (s_.2.1 : Value).ownBlock ∧ some k_ ≠ (s_.2.2 : Value).ownBlock) (.slice Ao13 x5_1.length co13) x5_1) ∧ (w'.heap[gb195]? = some (.cells #[.int .i64 ((rd_T52 l0 x10_1).f0), .int .i64 ((rd_T52 l0 x10_1).f1), .int .i64 ((rd_T52 l0 x10_1).f2), .int .i64 ((rd_T52 l0 x10_1).f3), .slice (some ad202) ((rd_T52 l0 x10_1).f4).length c194_4] 52 (0, 0))) ∧ (Below w.heap.size w w')) ?_ ?_
                    rotate_left
                    · intro hCont
                      refine two_ (i := 4) (j := 12) (Ni := some 18) (Nj := some 26) #[true, true, true, true, true, false, true, true, true, true, true, true, false, false, false, false] #[true, true, true, true, false, false, true, true, true, true, true, true, true, false, false, false] rfl rfl rfl rfl (two_of HT_.out (by kernel_rfl)) (by decide) (by decide) (fun K hK => ?_) (fun K hK => ?_)
                      · skip
                        refine Kd.R_lit_step (Kd.int .u8) _ 5 ?hg (N := 18) ?hd (xs := ([((rd_T52 l0 x10_1).f1) % 256] : List Int)) (inner := [.int .u8 (((rd_T52 l0 x10_1).f1) % 256)]) (ok := fun _ => True) (okp := fun _ => True) ?hr ?hp (fun _ hk => hk) trivial (Below.refl _ _) (Nat.le_refl _) (by simp) ?_; (case hd => rfl); (case hg => rfl); (case hr => first | (go_simp; done) | (go_simp; rfl)); (case hp => exact (Reps.one (show Kd.M (Kd.int .u8) _ _ _ (((rd_T52 l0 x10_1).f1) % 256) [.int .u8 (((rd_T52 l0 x10_1).f1) % 256)] from rfl) (Reps.none _ _)))
                        intro v197 w16 ho17 hb hg_ hnew_
                        clear hg_ hnew_
                        (first | rw [← Ny196.out] at ho17 | (simp only [Int.reduceToNat] at ho17; rw [← Ny196.out] at ho17))
                        have n0_ := Aside0.mk (Kd.R_elder' (by (with_reducible repeat (first | apply Kd.R_alloc | apply Kd.R_drewN | apply Kd.R_drew)); exact HO_4.out) (Kd.R_base ho17) hb)
                        have n1_ := Aside0.mk (Kd.R_elder' (by (with_reducible repeat (first | apply Kd.R_alloc | apply Kd.R_drewN | apply Kd.R_drew)); exact HO_5.out) (Kd.R_base ho17) hb)
                        have n2_ := Aside0.mk (Kd.R_lower (Kd.R_new' (Kd.R_new' ho17 (Kd.R_lt (by (with_reducible repeat (first | apply Kd.R_alloc | apply Kd.R_drewN | apply Kd.R_drew)); exact HO_4.out))) (Kd.R_lt (by (with_reducible repeat (first | apply Kd.R_alloc | apply Kd.R_drewN | apply Kd.R_drew)); exact HO_5.out))) (below_size (by repeat (first | (with_reducible first | exact HB.out | apply below_alloc | apply pw_below_drewN | apply below_drew1 | refine below_set ?_ GE195.out) | exact HB.out))))
                        have n3_ := Aside0.mk (blk_below (g := gb195) (o := .cells #[.int .i64 ((rd_T52 l0 x10_1).f0), .int .i64 ((rd_T52 l0 x10_1).f1), .int .i64 ((rd_T52 l0 x10_1).f2), .int .i64 ((rd_T52 l0 x10_1).f3), .slice (some ad202) ((rd_T52 l0 x10_1).f4).length c194_4] 52 (0, 0)) (by (with_reducible repeat (first | refine blk_drewN ?_ _ | refine blk_drew ?_ | refine blk_alloc ?_ _)); exact BK195.out) hb)
                        have n4_ := Aside0.mk (below_step (by repeat (first | (with_reducible first | exact HB.out | apply below_alloc | apply pw_below_drewN | apply below_drew1 | refine below_set ?_ GE195.out) | exact HB.out)) hb)
                        clear HO_4
                        clear HO_5
                        clear BK195
                        clear HB
                        have HO_4 := n0_
                        have HO_5 := n1_
                        have HO198 := n2_
                        have BK195 := n3_
                        have HB := n4_
                        clear n0_ n1_ n2_ n3_ n4_
                        clear hb ho17
                        obtain ⟨Ao19, co19, eo19⟩ := Kd.R_slice HO198.out
                        (first | subst eo19 | (injection eo19 with f1_ f2_ f3_; have f4_ := f1_.symm; have f5_ := f3_.symm; clear f1_ f2_ f3_; subst f4_; subst f5_))
                        refine hK.out _ _ ⟨(blk_cell BK195.out 0).trans rfl, (blk_cell BK195.out 1).trans rfl, (blk_cell BK195.out 2).trans rfl, (blk_cell BK195.out 3).trans rfl, (blk_cell BK195.out 4).trans rfl, ((HB.out.cell (World.block_lt_of_cell? w _ hw202_0)).trans hw202_0)⟩ (fun hHeld => ?_)
                        clear hK K
                        refine norm_ (a' := ?_) ?_ ?_
                        rotate_left
                        · show Act.put _ (some 18) _ = _
                          simp only [Act.put, List.setIfInBounds_toArray, List.set_cons_zero, List.set_cons_succ, i64_w, i32_w]
                          rfl
                        refine two_ (i := 5) (j := 12) (Ni := some 19) (Nj := some 26) #[true, true, true, true, true, true, true, true, true, true, true, true, false, false, false, false] #[true, true, true, true, true, false, true, true, true, true, true, true, true, false, false, false] rfl rfl rfl rfl (two_of HT_.out (by kernel_rfl)) (by decide) (by decide) (fun K hK => ?_) (fun K hK => ?_)
                        · skip
                          refine Kd.R_append_rows_step (Kd.int .u8) (w0 := w) w.heap.size (by rfl) (.tmp 14) (.tmp 18) 30 5 (.int .u8 0) 1 rfl Try.underlying30 info5 rfl (by decide) (by omega) (.slice Ao12 x4_1.length co12) x4_1 y196 _ _ _ (fun k_ => some k_ ≠ (.slice Ao13 x5_1.length co13 : Value).ownBlock ∧ some k_ ≠ (.slice Ao19 y196.length co19 : Value).ownBlock) (fun _ => False) rfl rfl ?aO ?aR (fun _ _ h => h) (fun _ h => h.elim) ?aF ?aB ?aS ?aL ?_
                          (case aR => repeat (first | exact (Kd.R_reads' HO198.out).2.2 | (with_reducible refine Kd.C_alloc ?_ _) | (with_reducible refine Kd.C_drewN ?_ _) | (with_reducible refine Kd.C_drew ?_)))
                          (case aB => exact (by repeat (first | (with_reducible first | exact HB.out | apply below_alloc | apply pw_below_drewN | apply below_drew1 | refine below_set ?_ GE195.out) | exact HB.out)))
                          (case aF => exact (fun k_ hk => ⟨Kd.fresh' (Kd.R_lt (by (with_reducible repeat (first | apply Kd.R_alloc | apply Kd.R_drewN | apply Kd.R_drew)); exact HO_5.out)) k_ hk, Kd.fresh' (Kd.R_lt (by (with_reducible repeat (first | apply Kd.R_alloc | apply Kd.R_drewN | apply Kd.R_drew)); exact HO198.out)) k_ hk⟩))
                          (case aO => exact (by (with_reducible repeat (first | apply Kd.R_alloc | apply Kd.R_drewN | apply Kd.R_drew)); exact HO_4.out))
                          (case aS => exact (below_size (by repeat (first | (with_reducible first | exact HB.out | apply below_alloc | apply pw_below_drewN | apply below_drew1 | refine below_set ?_ GE195.out) | exact HB.out))))
                          (case aL => have := LMc6.out; omega)
                          intro v200 w18 ho hb hg hat
                          rw [← Ny199.out] at ho
                          have n0_ := Aside0.mk (Kd.R_after (ok := (fun k_ => some k_ ≠ (.slice Ao19 y196.length co19 : Value).ownBlock)) (by (with_reducible repeat (first | apply Kd.R_alloc | apply Kd.R_drewN | apply Kd.R_drew)); exact Kd.R_mono HO_5.out (fun _ hk => ⟨hk.2, hk.1⟩)) hg hat)
                          have n1_ := Aside0.mk (blk_grown (g := gb195) (o := .cells #[.int .i64 ((rd_T52 l0 x10_1).f0), .int .i64 ((rd_T52 l0 x10_1).f1), .int .i64 ((rd_T52 l0 x10_1).f2), .int .i64 ((rd_T52 l0 x10_1).f3), .slice (some ad202) ((rd_T52 l0 x10_1).f4).length c194_4] 52 (0, 0)) (by (with_reducible repeat (first | refine blk_drewN ?_ _ | refine blk_drew ?_ | refine blk_alloc ?_ _)); exact BK195.out) hg (Kd.R_ne HO_4.out BK195.out (by decide)))
                          have n2_ := Aside0.mk (Kd.R_after (ok := (fun k_ => some k_ ≠ (.slice Ao13 x5_1.length co13 : Value).ownBlock)) (by (with_reducible repeat (first | apply Kd.R_alloc | apply Kd.R_drewN | apply Kd.R_drew)); exact Kd.R_mono HO198.out (fun _ hk => ⟨hk.2, hk.1.2⟩)) hg hat)
                          have n3_ := Aside0.mk (hb)
                          have n4_ := Aside0.mk (ho)
                          clear HO_5
                          clear BK195
                          clear HO198
                          clear HB
                          clear HO_4
                          have HO_5 := n0_
                          have BK195 := n1_
                          have HO198 := n2_
                          have HB := n3_
                          have HO201 := n4_
                          clear n0_ n1_ n2_ n3_ n4_
                          clear ho hb hg hat
                          refine hK.out _ _ ⟨(blk_cell BK195.out 0).trans rfl, (blk_cell BK195.out 1).trans rfl, (blk_cell BK195.out 2).trans rfl, (blk_cell BK195.out 3).trans rfl, (blk_cell BK195.out 4).trans rfl, ((HB.out.cell (World.block_lt_of_cell? w _ hw202_0)).trans hw202_0)⟩ (fun hHeld => ?_)
                          clear hK K
                          refine norm_ (a' := ?_) ?_ ?_
                          rotate_left
                          · show Act.put _ (some 19) _ = _
                            simp only [Act.put, List.setIfInBounds_toArray, List.set_cons_zero, List.set_cons_succ, i64_w, i32_w]
                            rfl
                          refine one_ (i := 12) (N := some 26) #[true, true, true, true, true, true, true, true, true, true, true, true, true, false, false, false] rfl rfl (one_of HT_.out (by kernel_rfl)) (by decide) (fun K hK => ?_)
                          refine Kd.R_lit_step (Kd.int .u8) _ 5 ?hg (N := 26) ?hd (xs := ([rd ((rd_T52 l0 x10_1).f4) a1] : List Int)) (inner := [.int .u8 (rd ((rd_T52 l0 x10_1).f4) a1)]) (ok := fun _ => True) (okp := fun _ => True) ?hr ?hp (fun _ hk => hk) trivial (Below.refl _ _) (Nat.le_refl _) (by simp) ?_; (case hd => rfl); (case hg => rfl); (case hr => first | (go_simp; done) | (go_simp; rfl)); (case hp => exact (Reps.one (show Kd.M (Kd.int .u8) _ _ _ (rd ((rd_T52 l0 x10_1).f4) a1) [.int .u8 (rd ((rd_T52 l0 x10_1).f4) a1)] from rfl) (Reps.none _ _)))
                          intro v204 w20 ho21 hb hg_ hnew_
                          clear hg_ hnew_
                          (first | rw [← Ny203.out] at ho21 | (simp only [Int.reduceToNat] at ho21; rw [← Ny203.out] at ho21))
                          have n0_ := Aside0.mk (Kd.R_elder' (by (with_reducible repeat (first | apply Kd.R_alloc | apply Kd.R_drewN | apply Kd.R_drew)); exact HO_5.out) (Kd.R_base ho21) hb)
                          have n1_ := Aside0.mk (Kd.R_elder' (by (with_reducible repeat (first | apply Kd.R_alloc | apply Kd.R_drewN | apply Kd.R_drew)); exact HO198.out) (Kd.R_base ho21) hb)
                          have n2_ := Aside0.mk (Kd.R_elder' (by (with_reducible repeat (first | apply Kd.R_alloc | apply Kd.R_drewN | apply Kd.R_drew)); exact HO201.out) (Kd.R_base ho21) hb)
                          have n3_ := Aside0.mk (Kd.R_lower (Kd.R_new' (Kd.R_new' (Kd.R_new' ho21 (Kd.R_lt (by (with_reducible repeat (first | apply Kd.R_alloc | apply Kd.R_drewN | apply Kd.R_drew)); exact HO_5.out))) (Kd.R_lt (by (with_reducible repeat (first | apply Kd.R_alloc | apply Kd.R_drewN | apply Kd.R_drew)); exact HO198.out))) (Kd.R_lt (by (with_reducible repeat (first | apply Kd.R_alloc | apply Kd.R_drewN | apply Kd.R_drew)); exact HO201.out))) (below_size (by repeat (first | (with_reducible first | exact HB.out | apply below_alloc | apply pw_below_drewN | apply below_drew1 | refine below_set ?_ GE195.out) | exact HB.out))))
                          have n4_ := Aside0.mk (blk_below (g := gb195) (o := .cells #[.int .i64 ((rd_T52 l0 x10_1).f0), .int .i64 ((rd_T52 l0 x10_1).f1), .int .i64 ((rd_T52 l0 x10_1).f2), .int .i64 ((rd_T52 l0 x10_1).f3), .slice (some ad202) ((rd_T52 l0 x10_1).f4).length c194_4] 52 (0, 0)) (by (with_reducible repeat (first | refine blk_drewN ?_ _ | refine blk_drew ?_ | refine blk_alloc ?_ _)); exact BK195.out) hb)
                          have n5_ := Aside0.mk (below_step (by repeat (first | (with_reducible first | exact HB.out | apply below_alloc | apply pw_below_drewN | apply below_drew1 | refine below_set ?_ GE195.out) | exact HB.out)) hb)
                          clear HO_5
                          clear HO198
                          clear HO201
                          clear BK195
                          clear HB
                          have HO_5 := n0_
                          have HO198 := n1_
                          have HO201 := n2_
                          have HO205 := n3_
                          have BK195 := n4_
                          have HB := n5_
                          clear n0_ n1_ n2_ n3_ n4_ n5_
                          clear hb ho21
                          refine hK.out _ _ ⟨(blk_cell BK195.out 0).trans rfl, (blk_cell BK195.out 1).trans rfl, (blk_cell BK195.out 2).trans rfl, (blk_cell BK195.out 3).trans rfl, (blk_cell BK195.out 4).trans rfl, ((HB.out.cell (World.block_lt_of_cell? w _ hw202_0)).trans hw202_0)⟩ (fun hHeld => ?_)
                          clear hK K
                          refine norm_ (a' := ?_) ?_ ?_
                          rotate_left
                          · show Act.put _ (some 26) _ = _
                            simp only [Act.put, List.setIfInBounds_toArray, List.set_cons_zero, List.set_cons_succ, i64_w, i32_w]
                            rfl
                          exact norm_ (by simp only [putAll, Act.put, List.setIfInBounds_toArray, List.set_cons_zero, List.set_cons_succ]) (hCont (.slice Ao19 y196.length co19, v200, v204) _ ⟨hHeld, (by (with_reducible repeat (first | apply Kd.R_alloc | apply Kd.R_drewN | apply Kd.R_drew)); exact Kd.R_mono HO198.out (fun _ hk => ⟨hk.1.2, ⟨hk.2, hk.1.1⟩⟩)), (by (with_reducible repeat (first | apply Kd.R_alloc | apply Kd.R_drewN | apply Kd.R_drew)); exact Kd.R_mono HO201.out (fun _ hk => ⟨hk.1.2, ⟨hk.2, hk.1.1⟩⟩)), (by (with_reducible repeat (first | apply Kd.R_alloc | apply Kd.R_drewN | apply Kd.R_drew)); exact Kd.R_mono HO205.out (fun _ hk => ⟨hk.1.2, ⟨hk.2, hk.1.1.2⟩⟩)), (by (with_reducible repeat (first | apply Kd.R_alloc | apply Kd.R_drewN | apply Kd.R_drew)); exact Kd.R_mono HO_5.out (fun _ hk => ⟨hk.1.1, ⟨hk.1.2, hk.2⟩⟩)), (by (with_reducible repeat (first | refine blk_drewN ?_ _ | refine blk_drew ?_ | refine blk_alloc ?_ _)); exact BK195.out), (by repeat (first | (with_reducible first | exact HB.out | apply below_alloc | apply pw_below_drewN | apply below_drew1 | refine below_set ?_ GE195.out) | exact HB.out))⟩)
                        · skip
                          refine Kd.R_lit_step (Kd.int .u8) _ 5 ?hg (N := 26) ?hd (xs := ([rd ((rd_T52 l0 x10_1).f4) a1] : List Int)) (inner := [.int .u8 (rd ((rd_T52 l0 x10_1).f4) a1)]) (ok := fun _ => True) (okp := fun _ => True) ?hr ?hp (fun _ hk => hk) trivial (Below.refl _ _) (Nat.le_refl _) (by simp) ?_; (case hd => rfl); (case hg => rfl); (case hr => first | (go_simp; done) | (go_simp; rfl)); (case hp => exact (Reps.one (show Kd.M (Kd.int .u8) _ _ _ (rd ((rd_T52 l0 x10_1).f4) a1) [.int .u8 (rd ((rd_T52 l0 x10_1).f4) a1)] from rfl) (Reps.none _ _)))
                          intro v204 w18 ho19 hb hg_ hnew_
                          clear hg_ hnew_
                          (first | rw [← Ny203.out] at ho19 | (simp only [Int.reduceToNat] at ho19; rw [← Ny203.out] at ho19))
                          have n0_ := Aside0.mk (Kd.R_elder' (by (with_reducible repeat (first | apply Kd.R_alloc | apply Kd.R_drewN | apply Kd.R_drew)); exact HO_4.out) (Kd.R_base ho19) hb)
                          have n1_ := Aside0.mk (Kd.R_elder' (by (with_reducible repeat (first | apply Kd.R_alloc | apply Kd.R_drewN | apply Kd.R_drew)); exact HO_5.out) (Kd.R_base ho19) hb)
                          have n2_ := Aside0.mk (Kd.R_elder' (by (with_reducible repeat (first | apply Kd.R_alloc | apply Kd.R_drewN | apply Kd.R_drew)); exact HO198.out) (Kd.R_base ho19) hb)
                          have n3_ := Aside0.mk (Kd.R_lower (Kd.R_new' (Kd.R_new' (Kd.R_new' ho19 (Kd.R_lt (by (with_reducible repeat (first | apply Kd.R_alloc | apply Kd.R_drewN | apply Kd.R_drew)); exact HO_4.out))) (Kd.R_lt (by (with_reducible repeat (first | apply Kd.R_alloc | apply Kd.R_drewN | apply Kd.R_drew)); exact HO_5.out))) (Kd.R_lt (by (with_reducible repeat (first | apply Kd.R_alloc | apply Kd.R_drewN | apply Kd.R_drew)); exact HO198.out))) (below_size (by repeat (first | (with_reducible first | exact HB.out | apply below_alloc | apply pw_below_drewN | apply below_drew1 | refine below_set ?_ GE195.out) | exact HB.out))))
                          have n4_ := Aside0.mk (blk_below (g := gb195) (o := .cells #[.int .i64 ((rd_T52 l0 x10_1).f0), .int .i64 ((rd_T52 l0 x10_1).f1), .int .i64 ((rd_T52 l0 x10_1).f2), .int .i64 ((rd_T52 l0 x10_1).f3), .slice (some ad202) ((rd_T52 l0 x10_1).f4).length c194_4] 52 (0, 0)) (by (with_reducible repeat (first | refine blk_drewN ?_ _ | refine blk_drew ?_ | refine blk_alloc ?_ _)); exact BK195.out) hb)
                          have n5_ := Aside0.mk (below_step (by repeat (first | (with_reducible first | exact HB.out | apply below_alloc | apply pw_below_drewN | apply below_drew1 | refine below_set ?_ GE195.out) | exact HB.out)) hb)
                          clear HO_4
                          clear HO_5
                          clear HO198
                          clear BK195
                          clear HB
                          have HO_4 := n0_
                          have HO_5 := n1_
                          have HO198 := n2_
                          have HO205 := n3_
                          have BK195 := n4_
                          have HB := n5_
                          clear n0_ n1_ n2_ n3_ n4_ n5_
                          clear hb ho19
                          obtain ⟨Ao21, co21, eo21⟩ := Kd.R_slice HO198.out
                          (first | subst eo21 | (injection eo21 with f1_ f2_ f3_; have f4_ := f1_.symm; have f5_ := f3_.symm; clear f1_ f2_ f3_; subst f4_; subst f5_))
                          refine hK.out _ _ ⟨(blk_cell BK195.out 0).trans rfl, (blk_cell BK195.out 1).trans rfl, (blk_cell BK195.out 2).trans rfl, (blk_cell BK195.out 3).trans rfl, (blk_cell BK195.out 4).trans rfl, ((HB.out.cell (World.block_lt_of_cell? w _ hw202_0)).trans hw202_0)⟩ (fun hHeld => ?_)
                          clear hK K
                          refine norm_ (a' := ?_) ?_ ?_
                          rotate_left
                          · show Act.put _ (some 26) _ = _
                            simp only [Act.put, List.setIfInBounds_toArray, List.set_cons_zero, List.set_cons_succ, i64_w, i32_w]
                            rfl
                          refine one_ (i := 5) (N := some 19) #[true, true, true, true, true, true, true, true, true, true, true, true, true, false, false, false] rfl rfl (one_of HT_.out (by kernel_rfl)) (by decide) (fun K hK => ?_)
                          refine Kd.R_append_rows_step (Kd.int .u8) (w0 := w) w.heap.size (by rfl) (.tmp 14) (.tmp 18) 30 5 (.int .u8 0) 1 rfl Try.underlying30 info5 rfl (by decide) (by omega) (.slice Ao12 x4_1.length co12) x4_1 y196 _ _ _ (fun k_ => some k_ ≠ (.slice Ao13 x5_1.length co13 : Value).ownBlock ∧ some k_ ≠ (.slice Ao21 y196.length co21 : Value).ownBlock ∧ some k_ ≠ (v204 : Value).ownBlock) (fun _ => False) rfl rfl ?aO ?aR (fun _ _ h => h) (fun _ h => h.elim) ?aF ?aB ?aS ?aL ?_
                          (case aR => repeat (first | exact (Kd.R_reads' HO198.out).2.2 | (with_reducible refine Kd.C_alloc ?_ _) | (with_reducible refine Kd.C_drewN ?_ _) | (with_reducible refine Kd.C_drew ?_)))
                          (case aB => exact (by repeat (first | (with_reducible first | exact HB.out | apply below_alloc | apply pw_below_drewN | apply below_drew1 | refine below_set ?_ GE195.out) | exact HB.out)))
                          (case aF => exact (fun k_ hk => ⟨Kd.fresh' (Kd.R_lt (by (with_reducible repeat (first | apply Kd.R_alloc | apply Kd.R_drewN | apply Kd.R_drew)); exact HO_5.out)) k_ hk, Kd.fresh' (Kd.R_lt (by (with_reducible repeat (first | apply Kd.R_alloc | apply Kd.R_drewN | apply Kd.R_drew)); exact HO198.out)) k_ hk, Kd.fresh' (Kd.R_lt (by (with_reducible repeat (first | apply Kd.R_alloc | apply Kd.R_drewN | apply Kd.R_drew)); exact HO205.out)) k_ hk⟩))
                          (case aO => exact (by (with_reducible repeat (first | apply Kd.R_alloc | apply Kd.R_drewN | apply Kd.R_drew)); exact Kd.R_mono HO_4.out (fun _ hk => ⟨hk.1.1, ⟨hk.1.2, hk.2⟩⟩)))
                          (case aS => exact (below_size (by repeat (first | (with_reducible first | exact HB.out | apply below_alloc | apply pw_below_drewN | apply below_drew1 | refine below_set ?_ GE195.out) | exact HB.out))))
                          (case aL => have := LMc6.out; omega)
                          intro v200 w20 ho hb hg hat
                          rw [← Ny199.out] at ho
                          have n0_ := Aside0.mk (Kd.R_after (ok := (fun k_ => some k_ ≠ (.slice Ao21 y196.length co21 : Value).ownBlock ∧ some k_ ≠ (v204 : Value).ownBlock)) (by (with_reducible repeat (first | apply Kd.R_alloc | apply Kd.R_drewN | apply Kd.R_drew)); exact Kd.R_mono HO_5.out (fun _ hk => ⟨⟨hk.1.2, hk.2⟩, hk.1.1⟩)) hg hat)
                          have n1_ := Aside0.mk (blk_grown (g := gb195) (o := .cells #[.int .i64 ((rd_T52 l0 x10_1).f0), .int .i64 ((rd_T52 l0 x10_1).f1), .int .i64 ((rd_T52 l0 x10_1).f2), .int .i64 ((rd_T52 l0 x10_1).f3), .slice (some ad202) ((rd_T52 l0 x10_1).f4).length c194_4] 52 (0, 0)) (by (with_reducible repeat (first | refine blk_drewN ?_ _ | refine blk_drew ?_ | refine blk_alloc ?_ _)); exact BK195.out) hg (Kd.R_ne HO_4.out BK195.out (by decide)))
                          have n2_ := Aside0.mk (Kd.R_after (ok := (fun k_ => some k_ ≠ (.slice Ao13 x5_1.length co13 : Value).ownBlock ∧ some k_ ≠ (v204 : Value).ownBlock)) (by (with_reducible repeat (first | apply Kd.R_alloc | apply Kd.R_drewN | apply Kd.R_drew)); exact Kd.R_mono HO198.out (fun _ hk => ⟨⟨hk.1.2, hk.2⟩, hk.1.1.2⟩)) hg hat)
                          have n3_ := Aside0.mk (Kd.R_after (ok := (fun k_ => some k_ ≠ (.slice Ao13 x5_1.length co13 : Value).ownBlock ∧ some k_ ≠ (.slice Ao21 y196.length co21 : Value).ownBlock)) (by (with_reducible repeat (first | apply Kd.R_alloc | apply Kd.R_drewN | apply Kd.R_drew)); exact Kd.R_mono HO205.out (fun _ hk => ⟨⟨hk.1.2, hk.2⟩, hk.1.1.2⟩)) hg hat)
                          have n4_ := Aside0.mk (hb)
                          have n5_ := Aside0.mk (ho)
                          clear HO_5
                          clear BK195
                          clear HO198
                          clear HO205
                          clear HB
                          clear HO_4
                          have HO_5 := n0_
                          have BK195 := n1_
                          have HO198 := n2_
                          have HO205 := n3_
                          have HB := n4_
                          have HO201 := n5_
                          clear n0_ n1_ n2_ n3_ n4_ n5_
                          clear ho hb hg hat
                          refine hK.out _ _ ⟨(blk_cell BK195.out 0).trans rfl, (blk_cell BK195.out 1).trans rfl, (blk_cell BK195.out 2).trans rfl, (blk_cell BK195.out 3).trans rfl, (blk_cell BK195.out 4).trans rfl, ((HB.out.cell (World.block_lt_of_cell? w _ hw202_0)).trans hw202_0)⟩ (fun hHeld => ?_)
                          clear hK K
                          refine norm_ (a' := ?_) ?_ ?_
                          rotate_left
                          · show Act.put _ (some 19) _ = _
                            simp only [Act.put, List.setIfInBounds_toArray, List.set_cons_zero, List.set_cons_succ, i64_w, i32_w]
                            rfl
                          exact norm_ (by simp only [putAll, Act.put, List.setIfInBounds_toArray, List.set_cons_zero, List.set_cons_succ]) (hCont (.slice Ao21 y196.length co21, v200, v204) _ ⟨hHeld, (by (with_reducible repeat (first | apply Kd.R_alloc | apply Kd.R_drewN | apply Kd.R_drew)); exact Kd.R_mono HO198.out (fun _ hk => ⟨hk.2, ⟨hk.1.2, hk.1.1⟩⟩)), (by (with_reducible repeat (first | apply Kd.R_alloc | apply Kd.R_drewN | apply Kd.R_drew)); exact Kd.R_mono HO201.out (fun _ hk => ⟨hk.2.1, ⟨hk.2.2, hk.1⟩⟩)), (by (with_reducible repeat (first | apply Kd.R_alloc | apply Kd.R_drewN | apply Kd.R_drew)); exact Kd.R_mono HO205.out (fun _ hk => ⟨hk.1.2, ⟨hk.2, hk.1.1⟩⟩)), (by (with_reducible repeat (first | apply Kd.R_alloc | apply Kd.R_drewN | apply Kd.R_drew)); exact Kd.R_mono HO_5.out (fun _ hk => ⟨hk.1.1, ⟨hk.2, hk.1.2⟩⟩)), (by (with_reducible repeat (first | refine blk_drewN ?_ _ | refine blk_drew ?_ | refine blk_alloc ?_ _)); exact BK195.out), (by repeat (first | (with_reducible first | exact HB.out | apply below_alloc | apply pw_below_drewN | apply below_drew1 | refine below_set ?_ GE195.out) | exact HB.out))⟩)
                      · skip
                        refine Kd.R_lit_step (Kd.int .u8) _ 5 ?hg (N := 26) ?hd (xs := ([rd ((rd_T52 l0 x10_1).f4) a1] : List Int)) (inner := [.int .u8 (rd ((rd_T52 l0 x10_1).f4) a1)]) (ok := fun _ => True) (okp := fun _ => True) ?hr ?hp (fun _ hk => hk) trivial (Below.refl _ _) (Nat.le_refl _) (by simp) ?_; (case hd => rfl); (case hg => rfl); (case hr => first | (go_simp; done) | (go_simp; rfl)); (case hp => exact (Reps.one (show Kd.M (Kd.int .u8) _ _ _ (rd ((rd_T52 l0 x10_1).f4) a1) [.int .u8 (rd ((rd_T52 l0 x10_1).f4) a1)] from rfl) (Reps.none _ _)))
                        intro v204 w16 ho17 hb hg_ hnew_
                        clear hg_ hnew_
                        (first | rw [← Ny203.out] at ho17 | (simp only [Int.reduceToNat] at ho17; rw [← Ny203.out] at ho17))
                        have n0_ := Aside0.mk (Kd.R_elder' (by (with_reducible repeat (first | apply Kd.R_alloc | apply Kd.R_drewN | apply Kd.R_drew)); exact HO_4.out) (Kd.R_base ho17) hb)
                        have n1_ := Aside0.mk (Kd.R_elder' (by (with_reducible repeat (first | apply Kd.R_alloc | apply Kd.R_drewN | apply Kd.R_drew)); exact HO_5.out) (Kd.R_base ho17) hb)
                        have n2_ := Aside0.mk (Kd.R_lower (Kd.R_new' (Kd.R_new' ho17 (Kd.R_lt (by (with_reducible repeat (first | apply Kd.R_alloc | apply Kd.R_drewN | apply Kd.R_drew)); exact HO_4.out))) (Kd.R_lt (by (with_reducible repeat (first | apply Kd.R_alloc | apply Kd.R_drewN | apply Kd.R_drew)); exact HO_5.out))) (below_size (by repeat (first | (with_reducible first | exact HB.out | apply below_alloc | apply pw_below_drewN | apply below_drew1 | refine below_set ?_ GE195.out) | exact HB.out))))
                        have n3_ := Aside0.mk (blk_below (g := gb195) (o := .cells #[.int .i64 ((rd_T52 l0 x10_1).f0), .int .i64 ((rd_T52 l0 x10_1).f1), .int .i64 ((rd_T52 l0 x10_1).f2), .int .i64 ((rd_T52 l0 x10_1).f3), .slice (some ad202) ((rd_T52 l0 x10_1).f4).length c194_4] 52 (0, 0)) (by (with_reducible repeat (first | refine blk_drewN ?_ _ | refine blk_drew ?_ | refine blk_alloc ?_ _)); exact BK195.out) hb)
                        have n4_ := Aside0.mk (below_step (by repeat (first | (with_reducible first | exact HB.out | apply below_alloc | apply pw_below_drewN | apply below_drew1 | refine below_set ?_ GE195.out) | exact HB.out)) hb)
                        clear HO_4
                        clear HO_5
                        clear BK195
                        clear HB
                        have HO_4 := n0_
                        have HO_5 := n1_
                        have HO205 := n2_
                        have BK195 := n3_
                        have HB := n4_
                        clear n0_ n1_ n2_ n3_ n4_
                        clear hb ho17
                        refine hK.out _ _ ⟨(blk_cell BK195.out 0).trans rfl, (blk_cell BK195.out 1).trans rfl, (blk_cell BK195.out 2).trans rfl, (blk_cell BK195.out 3).trans rfl, (blk_cell BK195.out 4).trans rfl, ((HB.out.cell (World.block_lt_of_cell? w _ hw202_0)).trans hw202_0)⟩ (fun hHeld => ?_)
                        clear hK K
                        refine norm_ (a' := ?_) ?_ ?_
                        rotate_left
                        · show Act.put _ (some 26) _ = _
                          simp only [Act.put, List.setIfInBounds_toArray, List.set_cons_zero, List.set_cons_succ, i64_w, i32_w]
                          rfl
                        refine one_ (i := 4) (N := some 18) #[true, true, true, true, true, false, true, true, true, true, true, true, true, false, false, false] rfl rfl (one_of HT_.out (by kernel_rfl)) (by decide) (fun K hK => ?_)
                        refine Kd.R_lit_step (Kd.int .u8) _ 5 ?hg (N := 18) ?hd (xs := ([((rd_T52 l0 x10_1).f1) % 256] : List Int)) (inner := [.int .u8 (((rd_T52 l0 x10_1).f1) % 256)]) (ok := fun _ => True) (okp := fun _ => True) ?hr ?hp (fun _ hk => hk) trivial (Below.refl _ _) (Nat.le_refl _) (by simp) ?_; (case hd => rfl); (case hg => rfl); (case hr => first | (go_simp; done) | (go_simp; rfl)); (case hp => exact (Reps.one (show Kd.M (Kd.int .u8) _ _ _ (((rd_T52 l0 x10_1).f1) % 256) [.int .u8 (((rd_T52 l0 x10_1).f1) % 256)] from rfl) (Reps.none _ _)))
                        intro v197 w18 ho19 hb hg_ hnew_
                        clear hg_ hnew_
                        (first | rw [← Ny196.out] at ho19 | (simp only [Int.reduceToNat] at ho19; rw [← Ny196.out] at ho19))
                        have n0_ := Aside0.mk (Kd.R_elder' (by (with_reducible repeat (first | apply Kd.R_alloc | apply Kd.R_drewN | apply Kd.R_drew)); exact HO_4.out) (Kd.R_base ho19) hb)
                        have n1_ := Aside0.mk (Kd.R_elder' (by (with_reducible repeat (first | apply Kd.R_alloc | apply Kd.R_drewN | apply Kd.R_drew)); exact HO_5.out) (Kd.R_base ho19) hb)
                        have n2_ := Aside0.mk (Kd.R_elder' (by (with_reducible repeat (first | apply Kd.R_alloc | apply Kd.R_drewN | apply Kd.R_drew)); exact HO205.out) (Kd.R_base ho19) hb)
                        have n3_ := Aside0.mk (Kd.R_lower (Kd.R_new' (Kd.R_new' (Kd.R_new' ho19 (Kd.R_lt (by (with_reducible repeat (first | apply Kd.R_alloc | apply Kd.R_drewN | apply Kd.R_drew)); exact HO_4.out))) (Kd.R_lt (by (with_reducible repeat (first | apply Kd.R_alloc | apply Kd.R_drewN | apply Kd.R_drew)); exact HO_5.out))) (Kd.R_lt (by (with_reducible repeat (first | apply Kd.R_alloc | apply Kd.R_drewN | apply Kd.R_drew)); exact HO205.out))) (below_size (by repeat (first | (with_reducible first | exact HB.out | apply below_alloc | apply pw_below_drewN | apply below_drew1 | refine below_set ?_ GE195.out) | exact HB.out))))
                        have n4_ := Aside0.mk (blk_below (g := gb195) (o := .cells #[.int .i64 ((rd_T52 l0 x10_1).f0), .int .i64 ((rd_T52 l0 x10_1).f1), .int .i64 ((rd_T52 l0 x10_1).f2), .int .i64 ((rd_T52 l0 x10_1).f3), .slice (some ad202) ((rd_T52 l0 x10_1).f4).length c194_4] 52 (0, 0)) (by (with_reducible repeat (first | refine blk_drewN ?_ _ | refine blk_drew ?_ | refine blk_alloc ?_ _)); exact BK195.out) hb)
                        have n5_ := Aside0.mk (below_step (by repeat (first | (with_reducible first | exact HB.out | apply below_alloc | apply pw_below_drewN | apply below_drew1 | refine below_set ?_ GE195.out) | exact HB.out)) hb)
                        clear HO_4
                        clear HO_5
                        clear HO205
                        clear BK195
                        clear HB
                        have HO_4 := n0_
                        have HO_5 := n1_
                        have HO205 := n2_
                        have HO198 := n3_
                        have BK195 := n4_
                        have HB := n5_
                        clear n0_ n1_ n2_ n3_ n4_ n5_
                        clear hb ho19
                        obtain ⟨Ao21, co21, eo21⟩ := Kd.R_slice HO198.out
                        (first | subst eo21 | (injection eo21 with f1_ f2_ f3_; have f4_ := f1_.symm; have f5_ := f3_.symm; clear f1_ f2_ f3_; subst f4_; subst f5_))
                        refine hK.out _ _ ⟨(blk_cell BK195.out 0).trans rfl, (blk_cell BK195.out 1).trans rfl, (blk_cell BK195.out 2).trans rfl, (blk_cell BK195.out 3).trans rfl, (blk_cell BK195.out 4).trans rfl, ((HB.out.cell (World.block_lt_of_cell? w _ hw202_0)).trans hw202_0)⟩ (fun hHeld => ?_)
                        clear hK K
                        refine norm_ (a' := ?_) ?_ ?_
                        rotate_left
                        · show Act.put _ (some 18) _ = _
                          simp only [Act.put, List.setIfInBounds_toArray, List.set_cons_zero, List.set_cons_succ, i64_w, i32_w]
                          rfl
                        refine one_ (i := 5) (N := some 19) #[true, true, true, true, true, true, true, true, true, true, true, true, true, false, false, false] rfl rfl (one_of HT_.out (by kernel_rfl)) (by decide) (fun K hK => ?_)
                        refine Kd.R_append_rows_step (Kd.int .u8) (w0 := w) w.heap.size (by rfl) (.tmp 14) (.tmp 18) 30 5 (.int .u8 0) 1 rfl Try.underlying30 info5 rfl (by decide) (by omega) (.slice Ao12 x4_1.length co12) x4_1 y196 _ _ _ (fun k_ => some k_ ≠ (.slice Ao13 x5_1.length co13 : Value).ownBlock ∧ some k_ ≠ (v204 : Value).ownBlock ∧ some k_ ≠ (.slice Ao21 y196.length co21 : Value).ownBlock) (fun _ => False) rfl rfl ?aO ?aR (fun _ _ h => h) (fun _ h => h.elim) ?aF ?aB ?aS ?aL ?_
                        (case aR => repeat (first | exact (Kd.R_reads' HO198.out).2.2 | (with_reducible refine Kd.C_alloc ?_ _) | (with_reducible refine Kd.C_drewN ?_ _) | (with_reducible refine Kd.C_drew ?_)))
                        (case aB => exact (by repeat (first | (with_reducible first | exact HB.out | apply below_alloc | apply pw_below_drewN | apply below_drew1 | refine below_set ?_ GE195.out) | exact HB.out)))
                        (case aF => exact (fun k_ hk => ⟨Kd.fresh' (Kd.R_lt (by (with_reducible repeat (first | apply Kd.R_alloc | apply Kd.R_drewN | apply Kd.R_drew)); exact HO_5.out)) k_ hk, Kd.fresh' (Kd.R_lt (by (with_reducible repeat (first | apply Kd.R_alloc | apply Kd.R_drewN | apply Kd.R_drew)); exact HO205.out)) k_ hk, Kd.fresh' (Kd.R_lt (by (with_reducible repeat (first | apply Kd.R_alloc | apply Kd.R_drewN | apply Kd.R_drew)); exact HO198.out)) k_ hk⟩))
                        (case aO => exact (by (with_reducible repeat (first | apply Kd.R_alloc | apply Kd.R_drewN | apply Kd.R_drew)); exact Kd.R_mono HO_4.out (fun _ hk => ⟨hk.1.1, ⟨hk.1.2, hk.2⟩⟩)))
                        (case aS => exact (below_size (by repeat (first | (with_reducible first | exact HB.out | apply below_alloc | apply pw_below_drewN | apply below_drew1 | refine below_set ?_ GE195.out) | exact HB.out))))
                        (case aL => have := LMc6.out; omega)
                        intro v200 w20 ho hb hg hat
                        rw [← Ny199.out] at ho
                        have n0_ := Aside0.mk (Kd.R_after (ok := (fun k_ => some k_ ≠ (v204 : Value).ownBlock ∧ some k_ ≠ (.slice Ao21 y196.length co21 : Value).ownBlock)) (by (with_reducible repeat (first | apply Kd.R_alloc | apply Kd.R_drewN | apply Kd.R_drew)); exact Kd.R_mono HO_5.out (fun _ hk => ⟨⟨hk.1.2, hk.2⟩, hk.1.1⟩)) hg hat)
                        have n1_ := Aside0.mk (blk_grown (g := gb195) (o := .cells #[.int .i64 ((rd_T52 l0 x10_1).f0), .int .i64 ((rd_T52 l0 x10_1).f1), .int .i64 ((rd_T52 l0 x10_1).f2), .int .i64 ((rd_T52 l0 x10_1).f3), .slice (some ad202) ((rd_T52 l0 x10_1).f4).length c194_4] 52 (0, 0)) (by (with_reducible repeat (first | refine blk_drewN ?_ _ | refine blk_drew ?_ | refine blk_alloc ?_ _)); exact BK195.out) hg (Kd.R_ne HO_4.out BK195.out (by decide)))
                        have n2_ := Aside0.mk (Kd.R_after (ok := (fun k_ => some k_ ≠ (.slice Ao13 x5_1.length co13 : Value).ownBlock ∧ some k_ ≠ (.slice Ao21 y196.length co21 : Value).ownBlock)) (by (with_reducible repeat (first | apply Kd.R_alloc | apply Kd.R_drewN | apply Kd.R_drew)); exact Kd.R_mono HO205.out (fun _ hk => ⟨⟨hk.1.2, hk.2⟩, hk.1.1.2⟩)) hg hat)
                        have n3_ := Aside0.mk (Kd.R_after (ok := (fun k_ => some k_ ≠ (.slice Ao13 x5_1.length co13 : Value).ownBlock ∧ some k_ ≠ (v204 : Value).ownBlock)) (by (with_reducible repeat (first | apply Kd.R_alloc | apply Kd.R_drewN | apply Kd.R_drew)); exact Kd.R_mono HO198.out (fun _ hk => ⟨⟨hk.1.2, hk.2⟩, hk.1.1.2⟩)) hg hat)
                        have n4_ := Aside0.mk (hb)
                        have n5_ := Aside0.mk (ho)
                        clear HO_5
                        clear BK195
                        clear HO205
                        clear HO198
                        clear HB
                        clear HO_4
                        have HO_5 := n0_
                        have BK195 := n1_
                        have HO205 := n2_
                        have HO198 := n3_
                        have HB := n4_
                        have HO201 := n5_
                        clear n0_ n1_ n2_ n3_ n4_ n5_
                        clear ho hb hg hat
                        refine hK.out _ _ ⟨(blk_cell BK195.out 0).trans rfl, (blk_cell BK195.out 1).trans rfl, (blk_cell BK195.out 2).trans rfl, (blk_cell BK195.out 3).trans rfl, (blk_cell BK195.out 4).trans rfl, ((HB.out.cell (World.block_lt_of_cell? w _ hw202_0)).trans hw202_0)⟩ (fun hHeld => ?_)
                        clear hK K
                        refine norm_ (a' := ?_) ?_ ?_
                        rotate_left
                        · show Act.put _ (some 19) _ = _
                          simp only [Act.put, List.setIfInBounds_toArray, List.set_cons_zero, List.set_cons_succ, i64_w, i32_w]
                          rfl
                        exact norm_ (by simp only [putAll, Act.put, List.setIfInBounds_toArray, List.set_cons_zero, List.set_cons_succ]) (hCont (.slice Ao21 y196.length co21, v200, v204) _ ⟨hHeld, (by (with_reducible repeat (first | apply Kd.R_alloc | apply Kd.R_drewN | apply Kd.R_drew)); exact Kd.R_mono HO198.out (fun _ hk => ⟨hk.2, ⟨hk.1.2, hk.1.1⟩⟩)), (by (with_reducible repeat (first | apply Kd.R_alloc | apply Kd.R_drewN | apply Kd.R_drew)); exact Kd.R_mono HO201.out (fun _ hk => ⟨hk.2.2, ⟨hk.2.1, hk.1⟩⟩)), (by (with_reducible repeat (first | apply Kd.R_alloc | apply Kd.R_drewN | apply Kd.R_drew)); exact Kd.R_mono HO205.out (fun _ hk => ⟨hk.1.2, ⟨hk.2, hk.1.1⟩⟩)), (by (with_reducible repeat (first | apply Kd.R_alloc | apply Kd.R_drewN | apply Kd.R_drew)); exact Kd.R_mono HO_5.out (fun _ hk => ⟨hk.1.2, ⟨hk.2, hk.1.1⟩⟩)), (by (with_reducible repeat (first | refine blk_drewN ?_ _ | refine blk_drew ?_ | refine blk_alloc ?_ _)); exact BK195.out), (by repeat (first | (with_reducible first | exact HB.out | apply below_alloc | apply pw_below_drewN | apply below_drew1 | refine below_set ?_ GE195.out) | exact HB.out))⟩)
                    rintro ⟨v197, v200, v204⟩ w22 ⟨hS_, h0_, h1_, h2_, h3_, h4_, h5_⟩
                    have n0_ : Aside0 (Kd.R (Kd.int .u8) 5 w22 w.heap.size (fun k_ => some k_ ≠ (v200 : Value).ownBlock ∧ some k_ ≠ (v204 : Value).ownBlock ∧ some k_ ≠ (.slice Ao13 x5_1.length co13 : Value).ownBlock) v197 y196) := ⟨h0_⟩
                    have n1_ : Aside0 (Kd.R (Kd.int .u8) 5 w22 w.heap.size (fun k_ => some k_ ≠ (v197 : Value).ownBlock ∧ some k_ ≠ (v204 : Value).ownBlock ∧ some k_ ≠ (.slice Ao13 x5_1.length co13 : Value).ownBlock) v200 y199) := ⟨h1_⟩
                    have n2_ : Aside0 (Kd.R (Kd.int .u8) 5 w22 w.heap.size (fun k_ => some k_ ≠ (v197 : Value).ownBlock ∧ some k_ ≠ (v200 : Value).ownBlock ∧ some k_ ≠ (.slice Ao13 x5_1.length co13 : Value).ownBlock) v204 y203) := ⟨h2_⟩
                    have n3_ : Aside0 (Kd.R (Kd.int .u8) 5 w22 w.heap.size (fun k_ => some k_ ≠ (v197 : Value).ownBlock ∧ some k_ ≠ (v200 : Value).ownBlock ∧ some k_ ≠ (v204 : Value).ownBlock) (.slice Ao13 x5_1.length co13) x5_1) := ⟨h3_⟩
                    have n4_ : Aside0 (w22.heap[gb195]? = some (.cells #[.int .i64 ((rd_T52 l0 x10_1).f0), .int .i64 ((rd_T52 l0 x10_1).f1), .int .i64 ((rd_T52 l0 x10_1).f2), .int .i64 ((rd_T52 l0 x10_1).f3), .slice (some ad202) ((rd_T52 l0 x10_1).f4).length c194_4] 52 (0, 0))) := ⟨h4_⟩
                    have n5_ : Aside0 (Below w.heap.size w w22) := ⟨h5_⟩
                    clear HO_4
                    clear HO_5
                    clear BK195
                    clear HB
                    clear h0_ h1_ h2_ h3_ h4_ h5_
                    have HO198 := n0_
                    have HO201 := n1_
                    have HO205 := n2_
                    have HO_5 := n3_
                    have BK195 := n4_
                    have HB := n5_
                    clear n0_ n1_ n2_ n3_ n4_ n5_
                    have hHeld : w22.cell? ⟨gb195, 0, none⟩ = some (.int .i64 ((rd_T52 l0 x10_1).f0)) ∧ w22.cell? ⟨gb195, 1, none⟩ = some (.int .i64 ((rd_T52 l0 x10_1).f1)) ∧ w22.cell? ⟨gb195, 2, none⟩ = some (.int .i64 ((rd_T52 l0 x10_1).f2)) ∧ w22.cell? ⟨gb195, 3, none⟩ = some (.int .i64 ((rd_T52 l0 x10_1).f3)) ∧ w22.cell? ⟨gb195, 4, none⟩ = some (.slice (some ad202) ((rd_T52 l0 x10_1).f4).length c194_4) ∧ w22.cell? (ad202.add (a1).toNat) = some (.int .u8 (rd ((rd_T52 l0 x10_1).f4) a1)) := hS_
                    obtain ⟨Ao24, co24, eo24⟩ := Kd.R_slice HO205.out
                    (first | subst eo24 | (injection eo24 with f1_ f2_ f3_; have f4_ := f1_.symm; have f5_ := f3_.symm; clear f1_ f2_ f3_; subst f4_; subst f5_))
                    refine norm_ (a' := ?_) ?_ ?_
                    rotate_left
                    · simp only [putAll, Act.put, List.setIfInBounds_toArray, List.set_cons_zero, List.set_cons_succ]
                      rfl
                    refine one_ (i := 13) (N := some 27) #[true, true, true, true, true, true, true, true, true, true, true, true, true, true, false, false] rfl rfl (one_of HT_.out (by kernel_rfl)) (by decide) (fun K hK => ?_)
                    refine Kd.R_append_rows_step (Kd.int .u8) (w0 := w) w.heap.size (by rfl) (.tmp 20) (.tmp 26) 30 5 (.int .u8 0) 1 rfl Try.underlying30 info5 rfl (by decide) (by omega) (.slice Ao13 x5_1.length co13) x5_1 y203 _ _ _ (fun k_ => some k_ ≠ (v197 : Value).ownBlock ∧ some k_ ≠ (v200 : Value).ownBlock ∧ some k_ ≠ (.slice Ao24 y203.length co24 : Value).ownBlock) (fun _ => False) rfl rfl ?aO ?aR (fun _ _ h => h) (fun _ h => h.elim) ?aF ?aB ?aS ?aL ?_
                    (case aR => repeat (first | exact (Kd.R_reads' HO205.out).2.2 | (with_reducible refine Kd.C_alloc ?_ _) | (with_reducible refine Kd.C_drewN ?_ _) | (with_reducible refine Kd.C_drew ?_)))
                    (case aB => exact (by repeat (first | (with_reducible first | exact HB.out | apply below_alloc | apply pw_below_drewN | apply below_drew1 | refine below_set ?_ GE195.out) | exact HB.out)))
                    (case aF => exact (fun k_ hk => ⟨Kd.fresh' (Kd.R_lt (by (with_reducible repeat (first | apply Kd.R_alloc | apply Kd.R_drewN | apply Kd.R_drew)); exact HO198.out)) k_ hk, Kd.fresh' (Kd.R_lt (by (with_reducible repeat (first | apply Kd.R_alloc | apply Kd.R_drewN | apply Kd.R_drew)); exact HO201.out)) k_ hk, Kd.fresh' (Kd.R_lt (by (with_reducible repeat (first | apply Kd.R_alloc | apply Kd.R_drewN | apply Kd.R_drew)); exact HO205.out)) k_ hk⟩))
                    (case aO => exact (by (with_reducible repeat (first | apply Kd.R_alloc | apply Kd.R_drewN | apply Kd.R_drew)); exact HO_5.out))
                    (case aS => exact (below_size (by repeat (first | (with_reducible first | exact HB.out | apply below_alloc | apply pw_below_drewN | apply below_drew1 | refine below_set ?_ GE195.out) | exact HB.out))))
                    (case aL => have := LMc9.out; omega)
                    intro v207 w23 ho hb hg hat
                    rw [← Ny206.out] at ho
                    have n0_ := Aside0.mk (blk_grown (g := gb195) (o := .cells #[.int .i64 ((rd_T52 l0 x10_1).f0), .int .i64 ((rd_T52 l0 x10_1).f1), .int .i64 ((rd_T52 l0 x10_1).f2), .int .i64 ((rd_T52 l0 x10_1).f3), .slice (some ad202) ((rd_T52 l0 x10_1).f4).length c194_4] 52 (0, 0)) (by (with_reducible repeat (first | refine blk_drewN ?_ _ | refine blk_drew ?_ | refine blk_alloc ?_ _)); exact BK195.out) hg (Kd.R_ne HO_5.out BK195.out (by decide)))
                    have n1_ := Aside0.mk (Kd.R_after (ok := (fun k_ => some k_ ≠ (v200 : Value).ownBlock ∧ some k_ ≠ (.slice Ao24 y203.length co24 : Value).ownBlock)) (by (with_reducible repeat (first | apply Kd.R_alloc | apply Kd.R_drewN | apply Kd.R_drew)); exact Kd.R_mono HO198.out (fun _ hk => ⟨⟨hk.1, hk.2.1⟩, hk.2.2⟩)) hg hat)
                    have n2_ := Aside0.mk (Kd.R_after (ok := (fun k_ => some k_ ≠ (v197 : Value).ownBlock ∧ some k_ ≠ (.slice Ao24 y203.length co24 : Value).ownBlock)) (by (with_reducible repeat (first | apply Kd.R_alloc | apply Kd.R_drewN | apply Kd.R_drew)); exact Kd.R_mono HO201.out (fun _ hk => ⟨⟨hk.1, hk.2.1⟩, hk.2.2⟩)) hg hat)
                    have n3_ := Aside0.mk (Kd.R_after (ok := (fun k_ => some k_ ≠ (v197 : Value).ownBlock ∧ some k_ ≠ (v200 : Value).ownBlock)) (by (with_reducible repeat (first | apply Kd.R_alloc | apply Kd.R_drewN | apply Kd.R_drew)); exact Kd.R_mono HO205.out (fun _ hk => ⟨⟨hk.1, hk.2.1⟩, hk.2.2⟩)) hg hat)
                    have n4_ := Aside0.mk (hb)
                    have n5_ := Aside0.mk (ho)
                    clear BK195
                    clear HO198
                    clear HO201
                    clear HO205
                    clear HB
                    clear HO_5
                    have BK195 := n0_
                    have HO198 := n1_
                    have HO201 := n2_
                    have HO205 := n3_
                    have HB := n4_
                    have HO208 := n5_
                    clear n0_ n1_ n2_ n3_ n4_ n5_
                    clear ho hb hg hat
                    refine hK.out _ _ ⟨(blk_cell BK195.out 0).trans rfl, (blk_cell BK195.out 1).trans rfl, (blk_cell BK195.out 2).trans rfl, (blk_cell BK195.out 3).trans rfl, (blk_cell BK195.out 4).trans rfl, ((HB.out.cell (World.block_lt_of_cell? w _ hw202_0)).trans hw202_0)⟩ (fun hHeld => ?_)
                    clear hK K
                    refine norm_ (a' := ?_) ?_ ?_
                    rotate_left
                    · show Act.put _ (some 27) _ = _
                      simp only [Act.put, List.setIfInBounds_toArray, List.set_cons_zero, List.set_cons_succ, i64_w, i32_w]
                      rfl
                    refine pure_ (i := 14) (N := some 4) (v := ?_) (a' := ?_) #[true, true, true, true, true, true, true, true, true, true, true, true, true, true, true, false] rfl rfl (any_of HT_.out (by kernel_rfl)) (fun _ _ _ h => h) (Or.inl ⟨by rfl, ?_⟩) ?_ ?_
                    rotate_left
                    · intro w'
                      go_simp
                      with_reducible rfl
                    rotate_left
                    · simp only [Act.put, List.setIfInBounds_toArray, List.set_cons_zero, List.set_cons_succ, i64_w, i32_w]
                      rfl
                    refine pure_ (i := 15) (N := some 5) (v := ?_) (a' := ?_) #[true, true, true, true, true, true, true, true, true, true, true, true, true, true, true, true] rfl rfl (any_of HT_.out (by kernel_rfl)) (fun _ _ _ h => h) (Or.inl ⟨by rfl, ?_⟩) ?_ ?_
                    rotate_left
                    · intro w'
                      go_simp
                      with_reducible rfl
                    rotate_left
                    · simp only [Act.put, List.setIfInBounds_toArray, List.set_cons_zero, List.set_cons_succ, i64_w, i32_w]
                      rfl
                    refine done_ (done_of HT_.out (by kernel_rfl)) ?_
                    try go_wp2
                    go_roundg k1
                    case measure => have := HK1.out; omega
                    case rel => exact ⟨(y199), (y206), (wrap64 (x10_1 + 1)), (by first | rfl | (simp; done) | (simp [*]; done)), H', ⟨by have := HK1.out; omega⟩, ⟨by (with_reducible repeat (first | apply Kd.R_alloc | apply Kd.R_drewN | apply Kd.R_drew)); exact Kd.R_mono HO201.out (fun _ hk => hk.2)⟩, ⟨by (with_reducible repeat (first | apply Kd.R_alloc | apply Kd.R_drewN | apply Kd.R_drew)); exact Kd.R_mono HO208.out (fun _ hk => hk.2.1)⟩, ⟨by repeat (first | (with_reducible first | exact HB.out | apply below_alloc | apply pw_below_drewN | apply below_drew1 | refine below_set ?_ GE195.out) | exact HB.out)⟩⟩
                  · rw [if_neg c9] at H
                    exact absurd H (by simp)
                · rw [if_neg c8] at H
                  exact absurd H (by simp)
              · rw [if_neg c7] at H
                exact absurd H (by simp)
            · rw [if_neg c6] at H
              exact absurd H (by simp)
          · rw [if_neg c5] at H
            exact absurd H (by simp)
        · rw [if_neg c4] at H
          exact absurd H (by simp)
      · rw [if_neg c3] at H
        have c3b0 : decide (x10_1 < (l0.length : Int)) = false := decide_eq_false c3
        clear c3
        simp only [Option.some.injEq, Prod.mk.injEq] at H
        obtain ⟨rfl, rfl⟩ := H
        go_wp2
        go_ret2
        exact ⟨_, _, by first | rfl | (simp [errW_none, errW_some] <;> rfl) | (simp [*, errW_none, errW_some] <;> rfl), by (with_reducible repeat (first | apply Kd.R_alloc | apply Kd.R_drewN | apply Kd.R_drew)); exact HO_4.out, by (with_reducible repeat (first | apply Kd.R_alloc | apply Kd.R_drewN | apply Kd.R_drew)); exact HO_5.out, by repeat (first | (with_reducible first | exact HB.out | apply below_alloc | apply pw_below_drewN | apply below_drew1) | exact HB.out)⟩

end Go.Proofs.Ytillfbohengpaaa.PA

/-
  WORDS: bytes and shares in the print's own vocabulary, and in ours.
-/
set_option linter.unusedVariables false
set_option linter.unusedSimpArgs false
namespace Go.Proofs.Ytillfbohengpaaa
open Go.RowKit Gf Go.Proofs.YtillfbohengpaaaW.PrintWords PA
def tI (x : G) : Int := (x.toNat : Int)
def gI (x : Int) : G := BitVec.ofInt 8 x
theorem gI_tI (x : G) : gI (tI x) = x := by simp [gI, tI]
theorem tI_gI (x : Int) (h0 : 0 ≤ x) (h1 : x < 256) : tI (gI x) = x := by
  obtain ⟨n, rfl⟩ := Int.eq_ofNat_of_zero_le h0
  simp only [tI, gI, BitVec.ofInt_natCast, BitVec.toNat_ofNat]
  omega
theorem tI_range (x : G) : 0 ≤ tI x ∧ tI x < 256 := by have := x.isLt; unfold tI; omega
theorem tI_inj {x y : G} (h : tI x = tI y) : x = y := by rw [← gI_tI x, h, gI_tI]
def okB (x : Int) : Bool := decide (0 ≤ x) && decide (x < 256)
theorem okB_tI (x : G) : okB (tI x) = true := by have := tI_range x; simp [okB, this.1, this.2]
def isB (l : List Int) : Bool := l.all okB
theorem isB_tI (l : List G) : isB (l.map tI) = true := by simp [isB, okB_tI]
theorem gI_map (l : List G) : (l.map tI).map gI = l := by simp [List.map_map, Function.comp_def, gI_tI]
theorem of_isB {l : List Int} (h : isB l = true) : (l.map gI).map tI = l := by
  rw [List.map_map]
  refine (List.map_congr_left fun x hx => ?_).trans (List.map_id l)
  have := List.all_eq_true.1 h x hx
  simp only [okB, Bool.and_eq_true, decide_eq_true_eq] at this
  exact tI_gI x this.1 this.2
theorem ex_isB {l : List Int} (h : isB l = true) : ∃ m : List G, l = m.map tI := ⟨_, (of_isB h).symm⟩
theorem spot_of {w : World} {ad : Addr} {v : Value} (h : w.cell? ad = some v) : ad = ⟨ad.block, ad.off, none⟩ := by
  obtain ⟨b, o, s⟩ := ad
  cases s with
  | none => rfl
  | some k =>
    unfold World.cell? at h
    cases hb : w.heap[b]? with
    | none => rw [hb] at h; cases h
    | some ob => rw [hb] at h; cases ob <;> simp at h
theorem C_of_rl {w : World} {A : Option Addr} {n : Nat} {l : List G} (h : RL gv w A n l) : Kd.C (Kd.int .u8) w A n (l.map tI) := by
  refine ⟨by rw [List.length_map]; exact h.1, h.2.1, fun hn => ?_⟩
  obtain ⟨b, o, rfl, hb, _⟩ := h.at 0 hn
  refine ⟨_, rfl, fun j p hj => ⟨[.int .u8 p], rfl, rfl, fun i u hu => ?_⟩⟩
  rw [List.getElem?_map, Option.map_eq_some_iff] at hj
  obtain ⟨x, hx, rfl⟩ := hj
  have hl := (List.getElem?_eq_some_iff.1 hx).1
  obtain ⟨b', o', e, _, hc⟩ := h.2.2 j hl
  injection e with e; injection e with e1 e2
  subst e1 e2
  cases i with
  | zero =>
    have hu' : Value.int .u8 (tI x) = u := by simpa using hu
    subst hu'
    show w.cell? (Addr.add ⟨b, o, none⟩ (j * 1 + 0)) = _
    rw [add_at, Nat.mul_one, Nat.add_zero, hc, (List.getElem?_eq_some_iff.1 hx).2]; rfl
  | succ i => simp at hu
theorem rl_of_C {w : World} {A : Option Addr} {n : Nat} {l : List G} (h : Kd.C (Kd.int .u8) w A n (l.map tI)) : RL gv w A n l := by
  have hl : l.length = n := by have := h.1; rwa [List.length_map] at this
  refine ⟨hl, h.2.1, fun j hj => ?_⟩
  obtain ⟨ad, rfl, hc⟩ := h.2.2 (by omega)
  have hl0 : 0 < l.length := by omega
  obtain ⟨c0, _, rfl, h0⟩ := hc 0 (tI (l[0]'hl0)) (by simp [hl0])
  have hs := h0 0 _ rfl
  rw [Nat.zero_mul, Nat.add_zero] at hs
  have hsp := spot_of (show w.cell? (ad.add 0) = _ from hs)
  simp only [Addr.add, if_true] at hsp hs
  obtain ⟨c1, _, rfl, h1⟩ := hc j (tI l[j]) (by simp [hj])
  have h2 : w.cell? (ad.add (j * 1 + 0)) = _ := h1 0 _ rfl
  rw [Nat.mul_one, Nat.add_zero, hsp, add_at] at h2
  refine ⟨ad.block, ad.off, by rw [← hsp], World.block_lt_of_cell? w ad hs, h2⟩
theorem R_of_own {E : TypeId} {w : World} {base n : Nat} {v : Value} {l : List G} {ok : Nat → Prop} (h : OwnL gv E w base v n l) (hok : ∀ k, v.ownBlock = some k → ok k) : Kd.R (Kd.int .u8) E w base ok v (l.map tI) := by
  refine ⟨hok, l.map gv, ?_, ?_⟩
  · show w.ownsRow base E 1 v (l.map tI).length (l.map gv)
    rw [List.length_map, h.length]; exact h
  · refine ⟨by simp [Kd.int, Kd.scalar], fun j p hj => ?_⟩
    rw [List.getElem?_map, Option.map_eq_some_iff] at hj
    obtain ⟨x, hx, rfl⟩ := hj
    show ((l.map gv).drop (j * 1)).take 1 = [.int .u8 (tI x)]
    rw [Nat.mul_one]
    obtain ⟨hl, hx⟩ := List.getElem?_eq_some_iff.1 hx
    rw [List.drop_eq_getElem_cons (by simpa using hl)]
    simp [hx]; rfl
theorem own_of_R {E : TypeId} {w : World} {base : Nat} {v : Value} {l : List G} {ok : Nat → Prop} (h : Kd.R (Kd.int .u8) E w base ok v (l.map tI)) : OwnL gv E w base v l.length l := by
  obtain ⟨_, inner, ho, hr⟩ := h
  rw [List.length_map] at ho
  suffices hi : inner = l.map gv by rw [hi] at ho; exact ho
  have hlen : inner.length = l.length := by have := hr.1; simpa [Kd.int, Kd.scalar] using this
  apply List.ext_getElem (by simpa using hlen)
  intro j h1 h2
  have hj : j < l.length := by omega
  have := hr.2 j (tI l[j]) (by simp [hj])
  have h3 : (inner.drop (j * 1)).take 1 = [.int .u8 (tI l[j])] := this
  rw [Nat.mul_one, List.drop_eq_getElem_cons h1] at h3
  simp only [List.take_succ_cons, List.take_zero, List.cons.injEq, and_true] at h3
  rw [h3]; simp; rfl
def sI (s : Sh) : S52 := ⟨s.ep, s.ix, s.th, s.mn, s.da.map tI⟩
def shG (s : S52) : Sh := ⟨s.f0, s.f1, s.f2, s.f3, s.f4.map gI⟩
def okS (l : List S52) : Bool := l.all fun s => isB s.f4
theorem shG_sI (s : Sh) : shG (sI s) = s := by cases s; simp [shG, sI, List.map_map, Function.comp_def, gI_tI]
theorem okS_sI (l : List Sh) : okS (l.map sI) = true := by simp [okS, sI, isB_tI]
theorem shG_map (l : List Sh) : (l.map sI).map shG = l := by simp [List.map_map, Function.comp_def, shG_sI]
theorem of_okS {l : List S52} (h : okS l = true) : (l.map shG).map sI = l := by
  rw [List.map_map]
  refine (List.map_congr_left fun x hx => ?_).trans (List.map_id l)
  have := List.all_eq_true.1 h x hx
  cases x
  simp only [Function.comp, shG, sI, id]
  rw [of_isB this]
theorem ex_okS {l : List S52} (h : okS l = true) : ∃ m : List Sh, l = m.map sI := ⟨_, (of_okS h).symm⟩
theorem rs_of_C {w : World} {A : Option Addr} {n : Nat} {l : List Sh} (h : Kd.C k52 w A n (l.map sI)) : RS w A n l := by
  have hl : l.length = n := by have := h.1; rwa [List.length_map] at this
  refine ⟨hl, h.2.1, fun j hj => ?_⟩
  have key : ∀ i (hi : i < l.length), ∃ ad A4 c4, A = some ad ∧ w.cell? (ad.add (i * 5)) = some (.int .i64 l[i].ep) ∧ w.cell? ⟨(ad.add (i * 5)).block, (ad.add (i * 5)).off + 1, none⟩ = some (.int .i64 l[i].ix) ∧ w.cell? ⟨(ad.add (i * 5)).block, (ad.add (i * 5)).off + 2, none⟩ = some (.int .i64 l[i].th) ∧ w.cell? ⟨(ad.add (i * 5)).block, (ad.add (i * 5)).off + 3, none⟩ = some (.int .i64 l[i].mn) ∧ w.cell? ⟨(ad.add (i * 5)).block, (ad.add (i * 5)).off + 4, none⟩ = some (.slice A4 (l[i].da.map tI).length c4) ∧ (l[i].da.map tI).length ≤ c4 ∧ (Kd.int .u8).C w A4 (l[i].da.map tI).length (l[i].da.map tI) := by
    intro i hi
    have := at_T52 h (i : Int) (by omega) (by omega)
    have e : rd_T52 (l.map sI) (i : Int) = sI l[i] := by simp [rd_T52, hi]
    rw [e, Int.toNat_natCast] at this
    exact this
  obtain ⟨ad, _, _, rfl, h0, _⟩ := key 0 (by omega)
  rw [Nat.zero_mul] at h0
  have hsp := spot_of h0
  simp only [Addr.add, if_true] at hsp h0
  obtain ⟨ad', A4, c4, e, g0, g1, g2, g3, g4, g5, g6⟩ := key j hj
  injection e with e; subst e
  rw [hsp, add_at] at g0 g1 g2 g3 g4
  refine ⟨ad.block, ad.off, by rw [← hsp], World.block_lt_of_cell? w ad h0, g0, g1, g2, g3, A4, _, c4, g4, ?_⟩
  have := rl_of_C g6
  exact this
end Go.Proofs.Ytillfbohengpaaa

/-
  WALKS: shares.columns, at bytes and at slices of bytes.
-/
set_option linter.unusedVariables false
set_option linter.unusedSimpArgs false
namespace Go.Proofs.Ytillfbohengpaaa
open Go.RowKit Gf Go.Sort
section
variable {α : Type} {enc : α → Value} {E : TypeId} {base : Nat}
theorem wpList_mk0 {P : Program} {ops : Array Oper} {rest : List Oper} {o : Oper} {a : Act} {Q : Exit → Act → World → Prop} {w : World} (hg : o.guard = none) (lo co : Operand) (t : TypeId) (hop : o.op = Op.makeSlice t lo co)
    {i : TypeInfo} {z : Value} (n : Nat) (ht : P.underlying t = some (.slice E)) (hi : P.info? E = some i) (hz : i.zero = some z) (hsize : i.size = 1)
    (kl kc : IntKind) (C : Int) (hl : a.eval lo = .int kl 0) (hc : a.eval co = .int kc C) (hC : C = (n : Int)) (hlen : i.bytes * n ≤ 281474976710656) (hlen2 : n ≤ 9223372036854775807) (hb : base ≤ w.heap.size)
    (hK : ∀ w', OwnL enc E w' base (.slice (some ⟨w.heap.size, 0, none⟩) 0 n) 0 [] → Below w.heap.size w w' → wpList P ops Q rest (a.put o.dst (.slice (some ⟨w.heap.size, 0, none⟩) 0 n)) w') :
    wpList P ops Q (o :: rest) a w := by
  refine wpList_make_own w hg lo co t hop base E i z 1 ht hi hz hsize kl kc C n hl hc hC hlen (by simp only [maxLen]; omega) hb ?_
  intro w' h2 h3
  exact hK w' h2 (grown_below h3)
end
theorem range_snoc {β : Type} (g : Nat → β) (k : Nat) : (List.range k).map g ++ [g k] = (List.range (k + 1)).map g := by simp [List.range_succ]
set_option maxRecDepth 100000 in
set_option maxHeartbeats 2000000 in
/-- columns over bytes: the closure's answers, in order. -/
theorem columns_u8 (fc : FuncId) (caps : Array Value) (n : Nat) (g : Nat → G) (w : World) (hn : n ≤ 1000) (hcf : ∀ args W, Sem.run Try.prog (callFunc fc args) W = .ok (.enter fc args) W)
    (hf : ∀ (at_ : Nat) (W : World), at_ < n → Below w.heap.size w W → Calls Try.prog fc (#[.int .i64 (at_ : Int)] ++ caps) W fun e w' => e = .returned (gv (g at_)) ∧ Below W.heap.size W w') :
    Calls Try.prog 43 #[.int .i64 (n : Int), .func (.func fc) #[] caps] w fun e w' => ∃ v, e = .returned v ∧ OwnL gv 5 w' w.heap.size v n ((List.range n).map g) ∧ Below w.heap.size w w' := by
  obtain ⟨i0, hi, hz0, hz1, hz2⟩ := info_parts Try.info5
  go_enter Try.func43, Try.ntmps43
  go_wp2_with (at_make; refine wpList_mk0 (enc := gv) (base := w.heap.size) rfl _ _ 30 rfl n slice_u8 hi hz0 hz1 _ _ _ rfl rfl rfl (by rw [hz2]; omega) (by omega) (Nat.le_refl _) ?_; intro w1 hol hb1)
  go_loopw [5, 6, 10] (fun lv _ si wr => ∃ (k : Nat), k ≤ n ∧ si = .int .i64 k ∧ OwnL gv 5 wr w.heap.size lv k ((List.range k).map g) ∧ Below w.heap.size w wr) (fun _ _ si _ => n - (intOf si).toNat)
  case atStart => exact ⟨0, by omega, rfl, hol, hb1⟩
  case round =>
    obtain ⟨k, hk, rfl, hl, hB⟩ := hrel
    clear hol hb1
    by_cases hlt : k < n
    · go_wp2_with fail
      refine (hf k _ hlt hB).mono ?_
      rintro e w2 ⟨rfl, hb2⟩
      have hB2 := bthen hB hb2
      replace hl := hl.below hb2
      go_wp2_with (at_builtin; refine wpList_app rfl _ _ 30 rfl (g k) rfl slice_u8 hi hz0 hz1 hz2 rfl rfl rfl hl rfl hB2.size (by omega) (by omega) ?_; intro v5 w5 hol5 hgr5 hob5)
      have hlow : Below w.heap.size w w5 := hB2.grown hgr5 hB2.size (fun k hk => (hl.lt k hk).1)
      go_wp2_with fail
      refine ⟨⟨k + 1, by omega, by go_num, by rw [← range_snoc]; exact hol5, hlow⟩, by simp [intOf]; omega⟩
    · obtain rfl : k = n := by omega
      go_wp2_with fail
      go_ret
      exact ⟨_, rfl, hl, hB⟩
/-- Values that are slices of the call's own, the j-th reading as g j, none in lv's block. -/
def VRs (w : World) (base : Nat) (lv : Value) (vs : List Value) (n : Nat) (g : Nat → List G) : Prop :=
  vs.length = n ∧ ∀ j (h : j < vs.length), ∃ m, OwnL gv 5 w base vs[j] m (g j) ∧ (vs[j].ownBlock = none ∨ vs[j].ownBlock ≠ lv.ownBlock)
theorem VRs.below {w w' : World} {base : Nat} {lv : Value} {vs : List Value} {n : Nat} {g : Nat → List G} (h : VRs w base lv vs n g) (hb : Below w.heap.size w w') : VRs w' base lv vs n g :=
  ⟨h.1, fun j hj => by obtain ⟨m, ho, hn⟩ := h.2 j hj; exact ⟨m, ho.below hb, hn⟩⟩
theorem VRs.snoc {w w' : World} {base n m : Nat} {lv lv' v : Value} {vs : List Value} {g : Nat → List G} (h : VRs w base lv vs n g) (hv : OwnL gv 5 w base v m (g n)) (hne : v.ownBlock = none ∨ v.ownBlock ≠ lv.ownBlock)
    (hg : w.grownBy w' lv.ownBlock) (hob : lv'.ownBlock = lv.ownBlock ∨ lv'.ownBlock = some (w.heap.size + 1)) : VRs w' base lv' (vs ++ [v]) (n + 1) g := by
  have key : ∀ (u : Value) (l : List G) (m : Nat), OwnL gv 5 w base u m l → (u.ownBlock = none ∨ u.ownBlock ≠ lv.ownBlock) → OwnL gv 5 w' base u m l ∧ (u.ownBlock = none ∨ u.ownBlock ≠ lv'.ownBlock) := by
    intro u l m hu hn
    refine ⟨hu.kept hg hn, ?_⟩
    rcases hob with e | e
    · rw [e]; exact hn
    · cases hb : u.ownBlock with
      | none => exact .inl rfl
      | some k =>
        refine .inr ?_
        rw [e]
        intro e2
        have := (hu.lt k hb).2
        have : k = w.heap.size + 1 := Option.some.inj e2
        omega
  refine ⟨by simp [h.1], fun j hj => ?_⟩
  by_cases hl : j < vs.length
  · obtain ⟨m, ho, hn⟩ := h.2 j hl
    rw [List.getElem_append_left hl]
    exact ⟨m, key _ _ _ ho hn⟩
  · have hjn : j = n := by simp at hj; have := h.1; omega
    subst hjn
    rw [List.getElem_append_right (by omega)]
    simp only [h.1, Nat.sub_self, List.getElem_cons_zero]
    exact ⟨m, key _ _ _ hv hne⟩
theorem Try.info30 : (Try.prog.info? 30).map (fun i => (i.zero, i.size, i.bytes)) = some (some (.slice none 0 0), 1, 24) := by kernel_rfl
theorem slice_sl : Try.prog.underlying 50 = some (.slice 30) := by kernel_rfl
set_option maxRecDepth 100000 in
set_option maxHeartbeats 2000000 in
/-- columns over slices of bytes. -/
theorem columns_sl (fc : FuncId) (caps : Array Value) (n : Nat) (g : Nat → List G) (w : World) (hn : n ≤ 1000) (hcf : ∀ args W, Sem.run Try.prog (callFunc fc args) W = .ok (.enter fc args) W)
    (hf : ∀ (at_ : Nat) (W : World), at_ < n → Below w.heap.size w W → Calls Try.prog fc (#[.int .i64 (at_ : Int)] ++ caps) W fun e w' => ∃ v m, e = .returned v ∧ OwnL gv 5 w' W.heap.size v m (g at_) ∧ Below W.heap.size W w') :
    Calls Try.prog 40 #[.int .i64 (n : Int), .func (.func fc) #[] caps] w fun e w' => ∃ v vs, e = .returned v ∧ OwnL id 30 w' w.heap.size v n vs ∧ VRs w' w.heap.size v vs n g ∧ Below w.heap.size w w' := by
  obtain ⟨i0, hi, hz0, hz1, hz2⟩ := info_parts Try.info30
  go_enter Try.func40, Try.ntmps40
  go_wp2_with (at_make; refine wpList_mk0 (enc := id) (base := w.heap.size) rfl _ _ 50 rfl n slice_sl hi hz0 hz1 _ _ _ rfl rfl rfl (by rw [hz2]; omega) (by omega) (Nat.le_refl _) ?_; intro w1 hol hb1)
  go_loopw [5, 6, 10] (fun lv _ si wr => ∃ (k : Nat) (vs : List Value), k ≤ n ∧ si = .int .i64 k ∧ OwnL id 30 wr w.heap.size lv k vs ∧ VRs wr w.heap.size lv vs k g ∧ Below w.heap.size w wr) (fun _ _ si _ => n - (intOf si).toNat)
  case atStart => exact ⟨0, [], by omega, rfl, hol, ⟨rfl, fun j h => by simp at h⟩, hb1⟩
  case round =>
    obtain ⟨k, vs, hk, rfl, hl, hvs, hB⟩ := hrel
    clear hol hb1
    by_cases hlt : k < n
    · go_wp2_with fail
      refine (hf k _ hlt hB).mono ?_
      rintro e w2 ⟨v, m, rfl, hv, hb2⟩
      have hB2 := bthen hB hb2
      have hne : ∀ x : Value, (∀ q, x.ownBlock = some q → q < ‹World›.heap.size) → True := fun _ _ => trivial
      have hvne : v.ownBlock = none ∨ v.ownBlock ≠ u5.ownBlock := by
        cases hb : v.ownBlock with
        | none => exact .inl rfl
        | some q =>
          refine .inr fun e2 => ?_
          have h1 := (hv.lt q hb).1
          have h2 := (hl.lt q e2.symm).2
          omega
      replace hl := hl.below hb2
      replace hvs := hvs.below hb2
      have hv' := hv.rebase hB.size
      clear hne
      obtain ⟨A, c, rfl, hmc⟩ := hv.any
      clear hv
      have HV := Lib.hid hv'
      have HN := Lib.hid hvne
      clear hv' hvne
      go_wp2_with (at_builtin; refine wpList_app (enc := id) rfl _ _ 50 rfl (Value.slice A m c) rfl slice_sl hi hz0 hz1 hz2 rfl rfl rfl hl rfl hB2.size (by omega) (by omega) ?_; intro v5 w5 hol5 hgr5 hob5)
      have hlow : Below w.heap.size w w5 := hB2.grown hgr5 hB2.size (fun k hk => (hl.lt k hk).1)
      have hvs5 := hvs.snoc HV.out HN.out hgr5 hob5
      have HVS := Lib.hid hvs5
      clear hvs5 hob5 hvs
      go_wp2_with fail
      refine ⟨⟨k + 1, _, by omega, by go_num, hol5, HVS.out, hlow⟩, by simp [intOf]; omega⟩
    · obtain rfl : k = n := by omega
      go_wp2_with fail
      go_ret
      exact ⟨_, _, rfl, hl, hvs, hB⟩
end Go.Proofs.Ytillfbohengpaaa

/-
  WALKS: the closures of shares.Split, and shares.piece.
-/
set_option linter.unusedVariables false
set_option linter.unusedSimpArgs false
namespace Go.Proofs.Ytillfbohengpaaa
open Go.RowKit Gf Go.Sort
theorem RL.cut {α : Type} {enc : α → Value} {w : World} {b o n : Nat} {l : List α} (h : RL enc w (some ⟨b, o, none⟩) n l) (p m : Nat) (hp : p + m ≤ n) : RL enc w (some ⟨b, o + p, none⟩) m ((l.drop p).take m) := by
  refine ⟨by simp; have := h.1; omega, by have := h.2.1; omega, fun j hj => ?_⟩
  have hj' : j < m := by simp at hj; omega
  obtain ⟨b', o', e, hb, hc⟩ := h.at (p + j) (by omega)
  injection e with e; injection e with e1 e2
  subst e1 e2
  refine ⟨b, o + p, rfl, hb, ?_⟩
  rw [show o + p + j = o + (p + j) by omega, hc]
  simp
set_option maxRecDepth 100000 in
set_option maxHeartbeats 2000000 in
theorem piece_u (A : Option Addr) (n c : Nat) (l : List G) (at_ m : Nat) (w : World) (h0 : RL gv w A n l) (hc : n ≤ c) (hb : (at_ + 1) * m ≤ n) (hn : n ≤ 100000) (hat : at_ ≤ 100000) (hm : m ≤ 100000) :
    Calls Try.prog 42 #[.slice A n c, .int .i64 (at_ : Int), .int .i64 (m : Int)] w fun e w' => ∃ B, e = .returned (.slice B m m) ∧ RL gv w B m ((l.drop (at_ * m)).take m) ∧ w = w' := by
  obtain ⟨p, hp⟩ : ∃ p, p = at_ * m := ⟨_, rfl⟩
  have hq : (at_ + 1) * m = p + m := by rw [hp, Nat.add_mul, Nat.one_mul]
  rw [hq] at hb
  have e1 : wrap64 ((at_ : Int) * (m : Int)) = (p : Int) := by
    have : (at_ : Int) * (m : Int) = (p : Int) := by rw [hp]; simp
    rw [this]; unfold wrap64; omega
  have e2 : wrap64 (((at_ : Int) + 1) * (m : Int)) = (p : Int) + (m : Int) := by
    have : ((at_ : Int) + 1) * (m : Int) = (p : Int) + (m : Int) := by
      have := congrArg (fun x : Nat => (x : Int)) hq
      simpa using this
    rw [this]; unfold wrap64; omega
  have hbc : p + m ≤ c := by omega
  rw [← hp]
  have HQ := Lib.hid hq
  have HP := Lib.hid hp
  clear hq hp
  go_enter Try.func42, Try.ntmps42
  go_wp2_with fail
  · obtain rfl : m = 0 := by omega
    go_ret
    exact ⟨A, by simp, by simpa using RL.nil gv w A, rfl⟩
  · go_ret
    refine ⟨_, rfl, ?_, rfl⟩
    obtain ⟨b, o, rfl, hb', _⟩ := h0.at 0 (by omega)
    show RL gv w (some (Addr.add ⟨b, o, none⟩ p)) m _
    rw [Go.Proofs.YtillfbohengpaaaW.PrintWords.add_at]
    exact h0.cut p m hb
set_option maxRecDepth 100000 in
set_option maxHeartbeats 2000000 in
/-- Split's second closure: the value of a byte's polynomial at i. -/
theorem split2_u (p q : Nat) (A : Option Addr) (n c : Nat) (vs : List Value) (g : Nat → List G) (base : Nat) (i at_ : Nat) (w : World) (hp : w.cell? ⟨p, 0, none⟩ = some (.slice A n c)) (hq : w.cell? ⟨q, 0, none⟩ = some (.int .i64 (i : Int)))
    (ho : OwnL id 30 w base (.slice A n c) n vs) (hv : VRs w base (.slice A n c) vs n g) (hat : at_ < n) (hi : i < 256) :
    Calls Try.prog 44 #[.int .i64 (at_ : Int), .pointer (some ⟨p, 0, none⟩), .pointer (some ⟨q, 0, none⟩)] w fun e w' => e = .returned (gv (ev (g at_) (BitVec.ofNat 8 i))) ∧ Below w.heap.size w w' := by
  obtain ⟨g0, cap, e, hb, hlt⟩ := ho.form (by omega)
  injection e with e1 e2 e3
  subst e1 e3
  obtain ⟨m, hm, _⟩ := hv.2 at_ (by rw [hv.1]; exact hat)
  have hcl := ho.cell at_ (by rw [hv.1]; exact hat)
  obtain ⟨B, cb, hB, hr⟩ := hm.rl
  rw [hB] at hcl
  have hic : ((i : Int) % 256) = (((BitVec.ofNat 8 i : G)).toNat : Int) := by simp
  have hati : (at_ : Int) < (n : Int) := by omega
  simp only [id] at hcl
  go_enter Try.func44, Try.ntmps44
  go_wp2_with fail
  have hp' : ∀ (dr : Nat) (os : Array Obj), (grow (redrawn w dr) os).cell? ⟨p, 0, none⟩ = _ := cell_regrown hp
  have hq' : ∀ (dr : Nat) (os : Array Obj), (grow (redrawn w dr) os).cell? ⟨q, 0, none⟩ = _ := cell_regrown hq
  have hcl' : ∀ (dr : Nat) (os : Array Obj), (grow (redrawn w dr) os).cell? ⟨g0, at_, none⟩ = _ := cell_regrown hcl
  refine wp_region_quiet_below mixed (by kernel_rfl) ?_
  repeat (quiet_step ((go_at_call 22; exact Calls.regrown_of (eval_u _ _ _ _ (BitVec.ofNat 8 i) _ (hr.below (below_regrown _ _ _))))))
  refine wpQuiet_nil ?_
  rintro _ ⟨p4, rfl⟩
  have hb4 := below_regrown w p4.d p4.os
  generalize grow (redrawn w p4.d) p4.os = w4 at *
  go_wp2_with fail
  go_ret
  exact ⟨rfl, hb4⟩
end Go.Proofs.Ytillfbohengpaaa
