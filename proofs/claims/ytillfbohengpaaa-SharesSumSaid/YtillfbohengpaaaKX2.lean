/-
  Texts of this session and laid words, merged in their order and pruned: Int, Base, Reg, Own, Map, Points, Rf, Mul, Eval, Coef, Sane, Sh, Alike, Check, Kd, Cols, SplitA, SplitB, Split, SplitOk, Pts, ShLaw, Join, RefreshA, Refresh, PAsharesCheck, PAfieldCoefficients, PAsharesExplain.
-/
import Derived.Test.YtillfbohengpaaaKX1
import Derived.WalkKit
import Derived.Lib.Hide
import Derived.WalkLawsBesides
import Derived.WalkSpells
import Derived.KernelRfl
import Derived.Maps.AppendAt
import Derived.Laws.OwnMore
import Derived.Laws.MakeOwn
import Derived.Test.YtillfbohengpaaaProg
import Derived.StillTail
import Derived.Lib.QuietBelow
import Derived.OwnWalk
import Derived.RangeFuncNested
import Derived.RangeFuncBound
import Derived.RangeFuncCalls
import Derived.RangeFuncLeaves
import Derived.Shelf.Abstract
import Derived.OwnWalkIn
import Derived.TacticsInMore
import Derived.LoopNIn
import Derived.LoopIn
import Derived.Deep.LoopGhost
import Derived.Shelf.RegionOpen
import Derived.BigQuiet
import Derived.Laws.BytesArg
section
set_option linter.unusedVariables false
set_option linter.unusedSimpArgs false
namespace Go.Proofs.Ytillfbohengpaaa.Gf
def g (l : List G) (i : Nat) : G := l.getD i 0#8
theorem g_eq (l : List G) (i : Nat) (h : i < l.length) : g l i = l[i] := by simp [g, h]
theorem g_ne (xs : List G) (hd : xs.Nodup) (i j : Nat) (hi : i < xs.length) (hj : j < xs.length) (h : i ≠ j) : g xs i ≠ g xs j := by
  rw [g_eq xs i hi, g_eq xs j hj]
  have hp := List.pairwise_iff_getElem.1 hd
  intro e
  rcases Nat.lt_or_gt_of_ne h with l | l
  · exact hp i j hi hj l e
  · exact hp j i hj hi l e.symm
def nstep (s : List G × List G) (x y : G) : List G × List G :=
  (lin s.1 x 1#8, add (s.2 ++ [0#8]) (scale (mul (y ^^^ ev s.2 x) (inv (ev s.1 x))) s.1))
def ntTo (xs ys : List G) : Nat → List G × List G
  | 0 => ([1#8], [])
  | i + 1 => nstep (ntTo xs ys i) (g xs i) (g ys i)
def coefs (xs ys : List G) : List G := (ntTo xs ys xs.length).2
theorem ntTo_length (xs ys : List G) (i : Nat) : (ntTo xs ys i).1.length = i + 1 ∧ (ntTo xs ys i).2.length = i := by
  induction i with
  | zero => exact ⟨rfl, rfl⟩
  | succ i ih => simp only [ntTo, nstep]; exact ⟨by rw [lin_length, ih.1], by rw [add_length _ _ (by simp [scale, ih.1, ih.2])]; simp [ih.2]⟩
theorem ntTo_spec (xs ys : List G) (hd : xs.Nodup) (i : Nat) (hi : i ≤ xs.length) :
    (∀ j, j < i → ev (ntTo xs ys i).1 (g xs j) = 0#8 ∧ ev (ntTo xs ys i).2 (g xs j) = g ys j) ∧ (∀ x, (∀ j, j < i → x ≠ g xs j) → ev (ntTo xs ys i).1 x ≠ 0#8) := by
  induction i with
  | zero => exact ⟨fun j h => by omega, fun x _ => by simp [ntTo, ev, mul_zero]⟩
  | succ i ih =>
    obtain ⟨h1, h2⟩ := ih (by omega)
    obtain ⟨l1, l2⟩ := ntTo_length xs ys i
    simp only [ntTo, nstep]
    generalize ntTo xs ys i = s at *
    obtain ⟨z, l⟩ := s
    dsimp only at *
    have hz : ev z (g xs i) ≠ 0#8 := h2 _ (fun j hj => g_ne xs hd i j (by omega) (by omega) (by omega))
    have evz : ∀ x, ev (lin z (g xs i) 1#8) x = mul (ev z x) (g xs i ^^^ x) := fun x => by rw [ev_lin, one_mul]
    have evl : ∀ x, ev (add (l ++ [0#8]) (scale (mul (g ys i ^^^ ev l (g xs i)) (inv (ev z (g xs i)))) z)) x = ev l x ^^^ mul (mul (g ys i ^^^ ev l (g xs i)) (inv (ev z (g xs i)))) (ev z x) := fun x => by
      rw [ev_add _ _ (by simp [scale, l1, l2]), ev_scale]
      have := ev_zeros l 1 x
      simp only [List.replicate_succ, List.replicate_zero] at this
      rw [this]
    refine ⟨fun j hj => ?_, fun x hx => ?_⟩
    · rw [evz, evl]
      by_cases e : j = i
      · subst e
        rw [xor_self, mul_zero, ← mul_assoc, inv_mul _ hz, mul_one]
        refine ⟨rfl, ?_⟩
        have : ev l (g xs j) ^^^ (g ys j ^^^ ev l (g xs j)) = g ys j ^^^ (ev l (g xs j) ^^^ ev l (g xs j)) := by ac_rfl
        rw [this]; simp
      · obtain ⟨a, b⟩ := h1 j (by omega)
        rw [a, b, zero_mul, mul_zero]
        simp
    · rw [evz]
      exact mul_ne _ _ (h2 x (fun j hj => hx j (by omega))) (xor_ne _ _ (fun e => hx i (by omega) e.symm))
theorem coefs_length (xs ys : List G) : (coefs xs ys).length = xs.length := (ntTo_length xs ys xs.length).2
theorem coefs_at (xs ys : List G) (hd : xs.Nodup) (j : Nat) (h : j < xs.length) : ev (coefs xs ys) (g xs j) = g ys j :=
  ((ntTo_spec xs ys hd xs.length (Nat.le_refl _)).1 j h).2
theorem coefs_unique (xs ys l : List G) (hd : xs.Nodup) (hl : l.length = xs.length) (h : ∀ j, j < xs.length → ev l (g xs j) = g ys j) : l = coefs xs ys := by
  refine unique l (coefs xs ys) xs (by rw [coefs_length, hl]) (by omega) hd (fun x hm => ?_)
  obtain ⟨j, hj, rfl⟩ := List.mem_iff_getElem.1 hm
  rw [← g_eq xs j hj, h j hj, coefs_at xs ys hd j hj]
def pws (x : G) : Nat → G
  | 0 => 1#8
  | i + 1 => mul (pws x i) x
def evTo (l : List G) (x : G) : Nat → G
  | 0 => 0#8
  | i + 1 => evTo l x i ^^^ mul (g l i) (pws x i)
theorem evTo_succ (l : List G) (x : G) (k : Nat) (h : k < l.length) : evTo l x (k + 1) = evTo l x k ^^^ mul l[k] (pws x k) := by rw [evTo, g_eq l k h]
theorem evTo_drop (l : List G) (x : G) (i : Nat) (h : i ≤ l.length) : evTo l x i ^^^ evp (l.drop i) (pws x i) x = ev l x := by
  induction i with
  | zero => simp [evTo, pws, evp_one]
  | succ i ih =>
    rw [← ih (by omega), evTo, pws, BitVec.xor_assoc]
    congr 1
    have hd : l.drop i = l[i] :: l.drop (i + 1) := List.drop_eq_getElem_cons (by omega)
    rw [hd, evp, g_eq l i (by omega)]
theorem evTo_all (l : List G) (x : G) : evTo l x l.length = ev l x := by
  have := evTo_drop l x l.length (Nat.le_refl _)
  simpa [evp] using this
def addTo (l m : List G) (j : Nat) : List G := (List.range l.length).map fun i => if i < j then g l i ^^^ g m i else g l i
theorem addTo_length (l m : List G) (j : Nat) : (addTo l m j).length = l.length := by simp [addTo]
theorem addTo_zero (l m : List G) : addTo l m 0 = l := by
  apply List.ext_getElem (by simp [addTo])
  intro i h1 h2
  simp [addTo, g_eq l i h2]
theorem addTo_set (l m : List G) (j : Nat) (hj : j < l.length) (h : j < (addTo l m j).length) : (addTo l m j).set j ((addTo l m j)[j] ^^^ g m j) = addTo l m (j + 1) := by
  apply List.ext_getElem (by simp [addTo])
  intro i h1 h2
  simp only [List.getElem_set]
  by_cases e : j = i
  · subst e; simp [addTo]
  · simp only [e, if_false]
    simp only [addTo, List.getElem_map, List.getElem_range]
    have : i < j ↔ i < j + 1 := by omega
    simp only [this]
theorem addTo_all (l m : List G) (h : l.length = m.length) (j : Nat) (hj : l.length ≤ j) : addTo l m j = add l m := by
  apply List.ext_getElem (by simp [addTo, add, h])
  intro i h1 h2
  have hi : i < l.length := by simpa [addTo] using h1
  simp only [addTo, add, List.getElem_map, List.getElem_range, List.getElem_zipWith]
  rw [if_pos (by omega), g_eq l i hi, g_eq m i (by omega)]
def linTo (l : List G) (a b : G) (j : Nat) : List G :=
  (List.range (l.length + 1)).map fun i => (if i < j then mul (g l i) a else 0#8) ^^^ (if 0 < i ∧ i ≤ j then mul (g l (i - 1)) b else 0#8)
theorem linTo_length (l : List G) (a b : G) (j : Nat) : (linTo l a b j).length = l.length + 1 := by simp [linTo]
theorem linTo_zero (l : List G) (a b : G) : linTo l a b 0 = List.replicate (l.length + 1) 0#8 := by
  apply List.ext_getElem (by simp [linTo])
  intro i h1 h2
  simp only [linTo, List.getElem_map, List.getElem_range, List.getElem_replicate]
  rw [if_neg (by omega), if_neg (by omega)]
  simp
def linMid (l : List G) (a b : G) (j : Nat) : List G := (linTo l a b j).set j (g (linTo l a b j) j ^^^ mul (g l j) a)
theorem linMid_length (l : List G) (a b : G) (j : Nat) : (linMid l a b j).length = l.length + 1 := by simp [linMid, linTo]
theorem linTo_set (l : List G) (a b : G) (j : Nat) (hj : j < l.length) : (linMid l a b j).set (j + 1) (g (linMid l a b j) (j + 1) ^^^ mul (g l j) b) = linTo l a b (j + 1) := by
  have gl : ∀ i, i < l.length + 1 → g (linTo l a b j) i = (if i < j then mul (g l i) a else 0#8) ^^^ (if 0 < i ∧ i ≤ j then mul (g l (i - 1)) b else 0#8) := fun i hi => by
    rw [g_eq _ i (by rw [linTo_length]; exact hi)]; simp [linTo]
  have gm : g (linMid l a b j) (j + 1) = 0#8 := by
    rw [g_eq _ (j + 1) (by rw [linMid_length]; omega)]
    simp only [linMid, List.getElem_set]
    rw [if_neg (by omega), ← g_eq _ (j + 1) (by rw [linTo_length]; omega), gl _ (by omega), if_neg (by omega), if_neg (by omega)]
    simp
  rw [gm]
  apply List.ext_getElem (by simp [linMid, linTo])
  intro i h1 h2
  have hi : i < l.length + 1 := by rw [linTo_length] at h2; exact h2
  simp only [linMid, List.getElem_set]
  have e2 : (linTo l a b (j + 1))[i] = (if i < j + 1 then mul (g l i) a else 0#8) ^^^ (if 0 < i ∧ i ≤ j + 1 then mul (g l (i - 1)) b else 0#8) := by simp [linTo]
  have e1 : (linTo l a b j)[i]'(by rw [linTo_length]; exact hi) = (if i < j then mul (g l i) a else 0#8) ^^^ (if 0 < i ∧ i ≤ j then mul (g l (i - 1)) b else 0#8) := by simp [linTo]
  rw [e2, e1]
  by_cases c1 : j + 1 = i
  · subst c1
    rw [if_pos rfl, if_neg (by omega), if_pos (by omega)]
    simp
  · rw [if_neg c1]
    by_cases c2 : j = i
    · subst c2
      rw [if_pos rfl, gl _ (by omega), if_pos (show j < j + 1 by omega), if_neg (show ¬ j < j by omega)]
      have : (0 < j ∧ j ≤ j) ↔ (0 < j ∧ j ≤ j + 1) := by omega
      simp only [this]
      rw [BitVec.zero_xor, BitVec.xor_comm]
    · rw [if_neg c2]
      have c3 : i < j ↔ i < j + 1 := by omega
      have c4 : (0 < i ∧ i ≤ j) ↔ (0 < i ∧ i ≤ j + 1) := by omega
      simp only [c3, c4]
theorem linTo_all (l : List G) (a b : G) : linTo l a b l.length = lin l a b := by
  apply List.ext_getElem (by simp [linTo, lin_length])
  intro i h1 h2
  have hi : i < l.length + 1 := by rw [linTo_length] at h1; exact h1
  simp only [lin, add, linTo, List.getElem_map, List.getElem_range, List.getElem_zipWith]
  congr 1
  · by_cases c : i < l.length
    · rw [if_pos c, List.getElem_append_left (by simpa [scale] using c)]
      simp [scale, g_eq l i c, mul_comm]
    · rw [if_neg c, List.getElem_append_right (by simp [scale]; omega)]
      simp
  · cases i with
    | zero => simp
    | succ i =>
      rw [if_pos (by omega)]
      simp [scale, g_eq l i (by omega), mul_comm]
def over (a b : G) : G := mul a (inv b)
def oneTo (xs ys : List G) (i : Nat) : Nat → List G
  | 0 => [g ys i]
  | k + 1 => if k = i then oneTo xs ys i k else lin (oneTo xs ys i k) (mul (over 1#8 (g xs i ^^^ g xs k)) (g xs k)) (over 1#8 (g xs i ^^^ g xs k))
def lagTo (xs ys : List G) : Nat → List G
  | 0 => List.replicate xs.length 0#8
  | i + 1 => add (lagTo xs ys i) (oneTo xs ys i xs.length)
def oneAt (xs ys : List G) (at_ : G) (i : Nat) : Nat → G
  | 0 => g ys i
  | k + 1 => if k = i then oneAt xs ys at_ i k else mul (oneAt xs ys at_ i k) (over (at_ ^^^ g xs k) (g xs i ^^^ g xs k))
def thrTo (xs ys : List G) (at_ : G) : Nat → G
  | 0 => 0#8
  | i + 1 => thrTo xs ys at_ i ^^^ oneAt xs ys at_ i xs.length
theorem oneTo_length (xs ys : List G) (i k : Nat) : (oneTo xs ys i k).length = k + (if i < k then 0 else 1) := by
  induction k with
  | zero => simp [oneTo]
  | succ k ih =>
    simp only [oneTo]
    split
    · rename_i h; subst h; rw [ih]; simp
    · rw [lin_length, ih]
      by_cases h : i < k
      · rw [if_pos h, if_pos (by omega)]
      · rw [if_neg h, if_neg (by omega)]
theorem oneTo_full (xs ys : List G) (i : Nat) (h : i < xs.length) : (oneTo xs ys i xs.length).length = xs.length := by rw [oneTo_length, if_pos h]; rfl
theorem lagTo_length (xs ys : List G) (i : Nat) (h : i ≤ xs.length) : (lagTo xs ys i).length = xs.length := by
  induction i with
  | zero => simp [lagTo]
  | succ i ih => rw [lagTo, add_length _ _ (by rw [ih (by omega), oneTo_full xs ys i (by omega)]), ih (by omega)]
theorem ev_oneTo (xs ys : List G) (x : G) (i k : Nat) : ev (oneTo xs ys i k) x = oneAt xs ys x i k := by
  induction k with
  | zero => simp [oneTo, oneAt, ev, mul_zero]
  | succ k ih =>
    simp only [oneTo, oneAt]
    split
    · exact ih
    · rw [ev_lin, ih, over, over, one_mul]
      congr 1
      rw [mul_comm (x ^^^ g xs k), mulx, BitVec.xor_comm]
theorem ev_lagTo (xs ys : List G) (x : G) (i : Nat) (h : i ≤ xs.length) : ev (lagTo xs ys i) x = thrTo xs ys x i := by
  induction i with
  | zero =>
    have := ev_zeros [] xs.length x
    simpa [lagTo, thrTo, ev] using this
  | succ i ih =>
    rw [lagTo, ev_add _ _ (by rw [lagTo_length xs ys i (by omega), oneTo_full xs ys i (by omega)]), ih (by omega), ev_oneTo, thrTo]
theorem oneAt_zero (xs ys : List G) (i j : Nat) (hij : j ≠ i) (k : Nat) (h : j < k) : oneAt xs ys (g xs j) i k = 0#8 := by
  induction k with
  | zero => omega
  | succ k ih =>
    simp only [oneAt]
    split
    · rename_i e; exact ih (by omega)
    · by_cases e : j = k
      · subst e; rw [xor_self, over, zero_mul, mul_zero]
      · rw [ih (by omega), zero_mul]
theorem oneAt_self (xs ys : List G) (hd : xs.Nodup) (i : Nat) (hi : i < xs.length) (k : Nat) (h : k ≤ xs.length) : oneAt xs ys (g xs i) i k = g ys i := by
  induction k with
  | zero => rfl
  | succ k ih =>
    simp only [oneAt]
    split
    · exact ih (by omega)
    · rename_i e
      rw [ih (by omega), over, mul_inv _ (xor_ne _ _ (g_ne xs hd i k hi (by omega) (fun e' => e e'.symm))), mul_one]
theorem thrTo_at (xs ys : List G) (hd : xs.Nodup) (j : Nat) (hj : j < xs.length) (i : Nat) (h : i ≤ xs.length) : thrTo xs ys (g xs j) i = if j < i then g ys j else 0#8 := by
  induction i with
  | zero => simp [thrTo]
  | succ i ih =>
    rw [thrTo, ih (by omega)]
    by_cases e : j = i
    · subst e; rw [oneAt_self xs ys hd j hj _ (Nat.le_refl _)]; simp
    · rw [oneAt_zero xs ys i j e _ hj]
      by_cases l : j < i
      · rw [if_pos l, if_pos (by omega)]; simp
      · rw [if_neg l, if_neg (by omega)]; simp
theorem lag_coefs (xs ys : List G) (hd : xs.Nodup) : lagTo xs ys xs.length = coefs xs ys :=
  coefs_unique xs ys _ hd (lagTo_length xs ys _ (Nat.le_refl _)) (fun j hj => by rw [ev_lagTo xs ys _ _ (Nat.le_refl _), thrTo_at xs ys hd j hj _ (Nat.le_refl _), if_pos hj])
end Go.Proofs.Ytillfbohengpaaa.Gf
end
section
set_option linter.unusedVariables false
set_option linter.unusedSimpArgs false
namespace Go.Proofs.Ytillfbohengpaaa
open Go.RowKit Gf
theorem G_le (x : G) : (x.toNat : Int) ≤ 255 := by have := x.isLt; omega
theorem G_ge (x : G) : (0 : Int) ≤ (x.toNat : Int) := by omega
theorem bits_xor_g (a b : G) : bits .xor .u8 (a.toNat : Int) (b.toNat : Int) = ((a ^^^ b).toNat : Int) := by
  unfold bits
  simp only [IntKind.bits]
  rw [IntKind.wrap_u8]
  have h1 : BitVec.ofInt 8 (a.toNat : Int) = a := by simp
  have h2 : BitVec.ofInt 8 (b.toNat : Int) = b := by simp
  rw [h1, h2]
  change (((a ^^^ b : BitVec 8).toNat : Int)) % 256 = ((a ^^^ b : BitVec 8).toNat : Int)
  have := (a ^^^ b : BitVec 8).isLt
  omega
def gx (a b : G) : G := a ^^^ b
theorem bits_gx (a b : G) : bits .xor .u8 (a.toNat : Int) (b.toNat : Int) = ((gx a b).toNat : Int) := bits_xor_g a b
theorem bits_and_bit (b : G) (k : Nat) (h : k < 8) : (bits .and .u8 ((b.toNat : Int) / 2 ^ min (k : Int).toNat 8) 1 == 1) = b.getLsbD k := by
  have hk : k = 0 ∨ k = 1 ∨ k = 2 ∨ k = 3 ∨ k = 4 ∨ k = 5 ∨ k = 6 ∨ k = 7 := by omega
  revert b
  rcases hk with rfl | rfl | rfl | rfl | rfl | rfl | rfl | rfl <;> decide +kernel
theorem tw_hi (x : G) (h : 128 ≤ x.toNat) : bits .xor .u8 ((x.toNat : Int) * 2 % 256) 27 = ((tw x).toNat : Int) := by
  revert x; decide +kernel
theorem tw_lo (x : G) (h : ¬ 128 ≤ x.toNat) : (x.toNat : Int) * 2 % 256 = ((tw x).toNat : Int) := by
  revert x; decide +kernel
theorem below_alloc1 (w : World) (o : Obj) : Below w.heap.size w (w.alloc o) := (Below.refl _ _).alloc (Nat.le_refl _) o
theorem bthen {a b c : World} (h : Below a.heap.size a b) (k : Below b.heap.size b c) : Below a.heap.size a c := h.trans (k.mono h.size)
theorem bthenB {B : Nat} {a b c : World} (h : Below B a b) (hB : B ≤ b.heap.size) (k : Below b.heap.size b c) : Below B a c := h.trans (k.mono hB)
theorem balloc {a b : World} (h : Below a.heap.size a b) (o : Obj) : Below a.heap.size a (b.alloc o) := h.alloc h.size o
theorem bdrewN {B : Nat} {a b : World} (h : Below B a b) (n : Nat) : Below B a (b.drewN n) := by
  obtain ⟨h1, h2, h3, h4, h5⟩ := h
  exact ⟨h1, h2, h3, h4, h5⟩
theorem grown_of_below {w w1 : World} (h : Below w.heap.size w w1) (row : Option Nat) : w.grownBy w1 row := ⟨h.os, h.tape, h.output, h.size, fun i hi _ => h.block i hi⟩
theorem nat_beq (a b : Nat) : ((a : Int) == (b : Int)) = decide (a = b) := by
  rw [Bool.eq_iff_iff, beq_iff_eq, decide_eq_true_eq]; omega
theorem cell_new (w : World) (c : Array Value) (t : TypeId) (fr : Nat × Nat) (b i : Nat) (hb : b = w.heap.size) : (w.alloc (.cells c t fr)).cell? ⟨b, i, none⟩ = c[i]? := by
  subst hb
  simp only [World.cell?, heap_alloc_new]
  rfl
theorem cell_old (w : World) (o : Obj) (a : Addr) (h : a.block < w.heap.size) : (w.alloc o).cell? a = w.cell? a := World.cell?_of_block (Below.heap_alloc w o a.block h)
theorem frozen_old (w : World) (o : Obj) (a : Addr) (h : a.block < w.heap.size) : (w.alloc o).frozen? a = w.frozen? a := World.frozen?_of_block (Below.heap_alloc w o a.block h)
theorem frozen_new (w : World) (c : Array Value) (t : TypeId) (b i : Nat) (hb : b = w.heap.size) : (w.alloc (.cells c t)).frozen? ⟨b, i, none⟩ = false := by
  subst hb
  simp only [World.frozen?, heap_alloc_new]
  simp
theorem cell_set_ne (w : World) (a b : Addr) (v : Value) (h : b.block ≠ a.block) : (w.setCell a v).cell? b = w.cell? b := World.cell?_of_block (Below.heap_setCell w a v b.block h)
abbrev gv (x : G) : Value := .int .u8 (x.toNat : Int)
def RL {α : Type} (enc : α → Value) (w : World) (A : Option Addr) (n : Nat) (l : List α) : Prop :=
  l.length = n ∧ n ≤ 9223372036854775807 ∧ ∀ j (h : j < l.length), ∃ b o, A = some ⟨b, o, none⟩ ∧ b < w.heap.size ∧ w.cell? ⟨b, o + j, none⟩ = some (enc l[j])
theorem RL.below {α : Type} {enc : α → Value} {w w' : World} {A : Option Addr} {n : Nat} {l : List α} (h : RL enc w A n l) (hb : Below w.heap.size w w') : RL enc w' A n l :=
  ⟨h.1, h.2.1, fun j hj => by
    obtain ⟨b, o, e, hlt, hc⟩ := h.2.2 j hj
    exact ⟨b, o, e, Nat.lt_of_lt_of_le hlt hb.size, (hb.cell (p := ⟨b, o + j, none⟩) hlt).trans hc⟩⟩
theorem RL.nil {α : Type} (enc : α → Value) (w : World) (A : Option Addr) : RL enc w A 0 [] := ⟨rfl, by omega, fun j h => by simp at h⟩
theorem RL.at {α : Type} {enc : α → Value} {w : World} {A : Option Addr} {n : Nat} {l : List α} (h : RL enc w A n l) (j : Nat) (hj : j < n) :
    ∃ b o, A = some ⟨b, o, none⟩ ∧ b < w.heap.size ∧ w.cell? ⟨b, o + j, none⟩ = some (enc (l[j]'(by rw [h.1]; exact hj))) := h.2.2 j (by rw [h.1]; exact hj)
end Go.Proofs.Ytillfbohengpaaa
end
section
set_option linter.unusedVariables false
set_option linter.unusedSimpArgs false
namespace Go.Proofs.Ytillfbohengpaaa
open Go.RowKit Go.Sort
def splitB (md : Region.Mode) (ops : Array Oper) (n : Nat) : Bool :=
  ((List.range n).all fun i => match ops[i]? with
    | some o => o.after.all (fun e => decide (e.on < i)) && (match o.guard with | some (j, _) => decide (j < n) | none => true)
    | none => false) &&
  ((List.range ops.size).all fun t => decide (t < n) || (List.range n).all fun i => match ops[t]? with
    | some o => o.after.any (fun e => Region.binds md e && e.on == i)
    | none => false) &&
  Region.seqB md ops (ops.size - n) n (Array.replicate n true ++ Array.replicate (ops.size - n) false)
section
variable {P : Program} {md : Region.Mode} {ops : Array Oper} {n m : Nat}
theorem upon_then (o : Oper) (a : Act) (next X : Act → World → Prop) (Q : Exit → Act → World → Prop) (r : Result Next) :
    o.upon P a next (Exit.then X Q) r = o.upon P a next Q r := by
  cases r with
  | ok x w => cases x <;> rfl
  | halt x w => cases x <;> rfl
theorem wp_then (o : Oper) (a : Act) (w : World) (next X : Act → World → Prop) (Q : Exit → Act → World → Prop) : o.wp P a w next (Exit.then X Q) = o.wp P a w next Q := upon_then ..
theorem getD_left {lh : Array Bool} (hl : lh.size = n) (j : Nat) (hj : j < n) (d : Bool) : (lh ++ Array.replicate m false).getD j d = lh.getD j d := by
  simp only [Array.getD_eq_getD_getElem?]
  rw [Array.getElem?_append_left (by omega)]
theorem getD_right {lh : Array Bool} (hl : lh.size = n) (j : Nat) (hj : n ≤ j) : (lh ++ Array.replicate m false).getD j false = false := by
  simp only [Array.getD_eq_getD_getElem?]
  rw [Array.getElem?_append_right (by omega), Array.getElem?_replicate]
  split <;> rfl
theorem any_split (hsz : ops.size = n + m) (hs : splitB md ops n = true) {Q : Exit → Act → World → Prop} :
    ∀ (f : Nat) (lh : Array Bool) (a : Act) (w : World), lh.size = n → lh.toList.count false = f →
      wpAny P md (ops.extract 0 n) (Exit.then (fun a' w' => wpList P ops Q (ops.toList.drop n) a' w') Q) f lh a w → wpAny P md ops Q (f + m) (lh ++ Array.replicate m false) a w := by
  unfold splitB at hs
  simp only [Bool.and_eq_true, List.all_eq_true, List.mem_range] at hs
  obtain ⟨⟨h1, h2⟩, h3⟩ := hs
  have hm : ops.size - n = m := by omega
  rw [hm] at h3
  have hhead : ∀ i, i < n → (ops.extract 0 n)[i]? = ops[i]? := fun i hi => by
    rw [Array.getElem?_extract]
    simp; omega
  intro f
  induction f with
  | zero =>
    intro lh a w hl hc h
    have hall : lh = Array.replicate n true := by
      apply Array.ext
      · simp [hl]
      · intro i hi _
        have : false ∉ lh.toList := List.count_eq_zero.1 hc
        cases e : lh[i] with
        | true => simp
        | false => exact absurd (by rw [← e]; exact Array.getElem_mem_toList _) this
    have hq : wpList P ops Q (ops.toList.drop n) a w := h.2
    have hlen : (ops.toList.drop n).length = m := by simp; omega
    have := wpAny_of_seq (P := P) (Q' := Q) (ops.toList.drop n) n (Array.replicate n true ++ Array.replicate m false) a w (fun j => by simp) (by rw [hlen]; exact h3) hq
    rw [hlen] at this
    rw [hall, Nat.zero_add]
    exact this
  | succ f ih =>
    intro lh a w hl hc h
    have hex : ∃ i, i < n ∧ lh.getD i true = false := by
      have hmem : false ∈ lh.toList := List.count_pos_iff.1 (by omega)
      obtain ⟨i, hi, e⟩ := List.mem_iff_getElem.1 hmem
      have hi' : i < lh.size := by simpa using hi
      refine ⟨i, by omega, ?_⟩
      simp only [Array.getElem_toList] at e
      simp [Array.getD_eq_getD_getElem?, hi', e]
    have hready : ∀ i, i < n → (i ∈ Region.ready md ops (lh ++ Array.replicate m false) ↔ i ∈ Region.ready md (ops.extract 0 n) lh) := by
      intro i hi
      rw [mem_ready, mem_ready, getD_left hl i hi, hhead i hi]
      have key : ∀ e : Edge, (lh ++ Array.replicate m false).getD e.on false = true ↔ lh.getD e.on false = true := fun e => by
        by_cases he : e.on < n
        · rw [getD_left hl _ he]
        · rw [getD_right hl _ (by omega)]
          simp [Array.getD_eq_getD_getElem?, Array.getElem?_eq_none (show lh.size ≤ e.on by omega)]
      simp only [key]
    have htail : ∀ t, t ∈ Region.ready md ops (lh ++ Array.replicate m false) → t < n := by
      intro t ht
      rcases Nat.lt_or_ge t n with hlt | hge
      · exact hlt
      · obtain ⟨_, o, ho, hall⟩ := mem_ready.1 ht
        have hts : t < ops.size := (Array.getElem?_eq_some_iff.1 ho).1
        obtain ⟨i, hi, hun⟩ := hex
        have h4 := h2 t hts
        simp only [Bool.or_eq_true, decide_eq_true_eq, List.all_eq_true, List.mem_range, ho] at h4
        rcases h4 with h4 | h4
        · omega
        · obtain ⟨e, he, hb⟩ := Array.any_eq_true'.1 (h4 i hi)
          simp only [Bool.and_eq_true, beq_iff_eq] at hb
          have h5 := hall e he hb.1
          rw [hb.2, getD_left hl i hi] at h5
          have : lh.getD i false = false := getD_both hun
          rw [this] at h5; cases h5
    rw [show f + 1 + m = (f + m) + 1 by omega]
    refine ⟨fun h0 => ?_, fun i hi => ?_⟩
    · exfalso
      have hmin : ∀ k i, i ≤ k → i < n → lh.getD i true = false → ∃ j, j ∈ Region.ready md (ops.extract 0 n) lh ∧ j < n := by
        intro k
        induction k with
        | zero =>
          intro i hik hi hun
          obtain rfl : i = 0 := by omega
          have hi0 := h1 0 hi
          have ho : ∃ o, ops[0]? = some o := ⟨ops[0]'(by omega), by simp [show 0 < ops.size by omega]⟩
          obtain ⟨o, ho⟩ := ho
          rw [ho] at hi0
          simp only [Bool.and_eq_true] at hi0
          refine ⟨0, mem_ready.2 ⟨hun, o, by rw [hhead 0 hi]; exact ho, fun e he hb => ?_⟩, hi⟩
          have := Array.all_eq_true'.1 hi0.1 e he
          simp at this
        | succ k ihk =>
          intro i hik hi hun
          by_cases hall : ∀ j, j < i → lh.getD j false = true
          · have hi0 := h1 i hi
            have ho : ∃ o, ops[i]? = some o := ⟨ops[i]'(by omega), by simp [show i < ops.size by omega]⟩
            obtain ⟨o, ho⟩ := ho
            rw [ho] at hi0
            simp only [Bool.and_eq_true] at hi0
            refine ⟨i, mem_ready.2 ⟨hun, o, by rw [hhead i hi]; exact ho, fun e he hb => ?_⟩, hi⟩
            have := Array.all_eq_true'.1 hi0.1 e he
            exact hall _ (by simpa using this)
          · obtain ⟨j, hj⟩ := Classical.not_forall.1 hall
            obtain ⟨hji, hjf⟩ := Classical.not_imp.1 hj
            refine ihk j (by omega) (by omega) ?_
            have hjs : j < lh.size := by omega
            exact getD_in hjs (by simpa using hjf)
      obtain ⟨i, hi, hun⟩ := hex
      obtain ⟨j, hj, hjn⟩ := hmin i i (Nat.le_refl _) hi hun
      rw [← hready j hjn, h0] at hj
      cases hj
    · have hin := htail i hi
      have hih := (hready i hin).1 hi
      have hop := h.2 i hih
      have hset : (lh ++ Array.replicate m false).setIfInBounds i true = lh.setIfInBounds i true ++ Array.replicate m false := by
        rw [Array.setIfInBounds_append_left (by omega)]
      rw [hset]
      have hun := (mem_ready.1 hih).1
      have his : i < lh.size := by omega
      have hcount : (lh.setIfInBounds i true).toList.count false = f := by
        have hli : lh[i] = false := by simpa [Array.getD_eq_getD_getElem?, his] using hun
        rw [Array.toList_setIfInBounds, List.count_set (by simpa using his)]
        simp [hli, hc]
      have hop' : wpOp P (ops.extract 0 n) (Exit.then (fun a' w' => wpList P ops Q (ops.toList.drop n) a' w') Q) i (wpAny P md ops Q (f + m) (lh.setIfInBounds i true ++ Array.replicate m false)) a w :=
        wpOp_mono (fun a' w' h' => ih _ a' w' (by simp [hl]) hcount h') hop
      have hi0 := h1 i hin
      unfold wpOp at hop' ⊢
      rw [hhead i hin] at hop'
      have ho : ∃ o, ops[i]? = some o := ⟨ops[i]'(by omega), by simp [show i < ops.size by omega]⟩
      obtain ⟨o, ho⟩ := ho
      rw [ho] at hop' hi0 ⊢
      simp only [Bool.and_eq_true] at hi0 hop' ⊢
      have hwant : Region.wanted o (yielded (ops.extract 0 n) a.tmps) = Region.wanted o (yielded ops a.tmps) := by
        unfold Region.wanted
        cases hg : o.guard with
        | none => rfl
        | some g =>
          obtain ⟨j, b⟩ := g
          have := hi0.2
          rw [hg] at this
          have hj : j < n := by simpa using this
          dsimp only
          unfold yielded
          rw [hhead j hj]
      rw [hwant] at hop'
      rw [wp_then] at hop'
      exact hop'
theorem wp_region_qt {id : Nat} {Q : Exit → Act → World → Prop} {a : Act} {w : World} {l : List Oper} (n : Nat) (hm : P.follows .mixedOrders = true) (hs : splitB .any l.toArray n = true) (hn : n ≤ l.length)
    (hB : Region.lexB .any (l.take n).toArray = true)
    (h : wpQuiet P (l.take n).toArray (fun w' => ∃ p : Regrown, w' = grow (redrawn w p.d) p.os) (fun a' => ∀ w', Below w.heap.size w w' → wpList P l.toArray Q (l.drop n) a' w') (l.take n) a) : (Code.region id l.toArray true).wp P Q a w := by
  refine wp_region_any hm ?_
  have hsz : l.toArray.size = n + (l.length - n) := by simp; omega
  have hext : l.toArray.extract 0 n = (l.take n).toArray := by simp
  simp only [Region.lexB, Bool.and_eq_true] at hB
  have hlen : (l.take n).length = n := by simp; omega
  have h0 := wpAnyQ_lex (P := P) (C := fun w' => ∃ p : Regrown, w' = grow (redrawn w p.d) p.os) (md := .any) hB.1 (l.take n) 0 (Array.replicate n false) a (by simp) (by rw [← hlen]; simpa [hlen] using hB.2) h
  rw [hlen] at h0
  have h1 := wpAny_of_quiet (P := P) (md := .any) (Q' := Exit.then (fun a' w' => wpList P l.toArray Q (l.toArray.toList.drop n) a' w') Q) (fun a' w' hC hq => by
    obtain ⟨p, rfl⟩ := hC
    exact hq _ (below_regrown w p.d p.os)) n (Array.replicate n false) a { w with drawn := w.drawn + 1 } ⟨⟨w.drawn + 1, #[]⟩, by rw [grow_empty]; rfl⟩ h0
  rw [← hext] at h1
  have h2 := any_split (P := P) (md := .any) hsz hs n (Array.replicate n false) a _ (by simp) (by simp) h1
  rw [← hsz] at h2
  have : Array.replicate n false ++ Array.replicate (l.length - n) false = Array.replicate l.toArray.size false := by
    rw [Array.replicate_append_replicate, hsz]
  rw [this] at h2
  exact h2
end
end Go.Proofs.Ytillfbohengpaaa
end
section
set_option linter.unusedVariables false
set_option linter.unusedSimpArgs false
namespace Go.Proofs.Ytillfbohengpaaa
open Go.RowKit
def OwnL {α : Type} (enc : α → Value) (E : TypeId) (w : World) (base : Nat) (v : Value) (n : Nat) (l : List α) : Prop := w.ownsRow base E 1 v n (l.map enc)
section
variable {α : Type} {enc : α → Value} {E : TypeId} {w w' : World} {base : Nat} {v : Value} {n : Nat} {l : List α}
theorem OwnL.nil (enc : α → Value) (E : TypeId) (w : World) (base : Nat) : OwnL enc E w base (.slice none 0 0) 0 [] := World.ownsRow_nil w base E 1
theorem OwnL.length (h : OwnL enc E w base v n l) : l.length = n := by have := h.1; simpa using this
theorem OwnL.form (h : OwnL enc E w base v n l) (hl : 0 < n) : ∃ g cap, v = .slice (some ⟨g, 0, none⟩) n cap ∧ base ≤ g ∧ g < w.heap.size := by
  rcases h.2 with ⟨_, h1⟩ | ⟨g, cap, cur, rfl, hb, hg, _⟩
  · omega
  · exact ⟨g, cap, rfl, hb, (Array.getElem?_eq_some_iff.1 hg).1⟩
theorem OwnL.any (h : OwnL enc E w base v n l) : ∃ A cap, v = .slice A n cap ∧ n ≤ cap := by
  rcases h.2 with ⟨rfl, h1⟩ | ⟨g, cap, cur, rfl, hb, hg, hc, _⟩
  · exact ⟨none, 0, by rw [h1], by omega⟩
  · exact ⟨_, cap, rfl, hc⟩
theorem OwnL.len (h : OwnL enc E w base v n l) : n ≤ 9223372036854775807 := by
  rcases h.2 with ⟨rfl, h1⟩ | ⟨g, cap, cur, rfl, hb, hg, hc, hm, _⟩
  · omega
  · simp only [maxLen] at hm; omega
theorem OwnL.cell {g cap : Nat} (h : OwnL enc E w base (.slice (some ⟨g, 0, none⟩) n cap) n l) (j : Nat) (hj : j < l.length) : w.cell? ⟨g, j, none⟩ = some (enc l[j]) := by
  have := World.ownsRow.cellAt h j (by have := h.length; omega)
  rw [this]; simp [hj]
theorem OwnL.free {g cap : Nat} (h : OwnL enc E w base (.slice (some ⟨g, 0, none⟩) n cap) n l) (j : Nat) : w.frozen? ⟨g, j, none⟩ = false := World.ownsRow.frozenAt h j
theorem OwnL.set {g cap : Nat} (h : OwnL enc E w base (.slice (some ⟨g, 0, none⟩) n cap) n l) (j : Nat) (x : α) :
    OwnL enc E (w.setCell ⟨g, j, none⟩ (enc x)) base (.slice (some ⟨g, 0, none⟩) n cap) n (l.set j x) := by
  have := (World.ownsRow.stored h j (enc x)).1
  unfold OwnL
  rw [List.map_set]
  exact this
theorem OwnL.kept (h : OwnL enc E w base v n l) {row : Option Nat} (hg : w.grownBy w' row) (hne : v.ownBlock = none ∨ v.ownBlock ≠ row) : OwnL enc E w' base v n l := World.ownsRow.kept h hg hne
theorem OwnL.below (h : OwnL enc E w base v n l) (hb : Below w.heap.size w w') : OwnL enc E w' base v n l := World.ownsRow.kept h (grown_of_below hb none) (by cases hv : v.ownBlock <;> simp)
theorem OwnL.alloc (h : OwnL enc E w base v n l) (o : Obj) : OwnL enc E (w.alloc o) base v n l := World.ownsRow.alloc h o
theorem OwnL.lt (h : OwnL enc E w base v n l) : ∀ k, v.ownBlock = some k → base ≤ k ∧ k < w.heap.size := World.ownsRow.lt h
theorem OwnL.setOther (h : OwnL enc E w base v n l) (a : Addr) (u : Value) (hne : v.ownBlock ≠ some a.block) : OwnL enc E (w.setCell a u) base v n l := by
  refine World.ownsRow.kept (row := some a.block) h ⟨rfl, rfl, rfl, by simp [World.setCell], fun k hk hk2 => Below.heap_setCell _ _ _ _ (fun e => hk2 (by rw [e]))⟩ (.inr hne)
theorem OwnL.rlg {g cap : Nat} (h : OwnL enc E w base (.slice (some ⟨g, 0, none⟩) n cap) n l) : RL enc w (some ⟨g, 0, none⟩) n l :=
  ⟨h.length, h.len, fun j hj => ⟨g, 0, rfl, (h.lt g rfl).2, by rw [Nat.zero_add]; exact h.cell j hj⟩⟩
theorem OwnL.rl (h : OwnL enc E w base v n l) : ∃ A cap, v = .slice A n cap ∧ RL enc w A n l := by
  by_cases hl : 0 < n
  · obtain ⟨g, cap, rfl, hb, hlt⟩ := h.form hl
    exact ⟨_, cap, rfl, h.rlg⟩
  · obtain ⟨A, cap, rfl, _⟩ := h.any
    have := h.length
    obtain rfl : n = 0 := by omega
    obtain rfl : l = [] := List.eq_nil_of_length_eq_zero this
    exact ⟨A, cap, rfl, RL.nil _ _ _⟩
theorem OwnL.rebase {base' : Nat} (h : OwnL enc E w base v n l) (hb : base' ≤ base) : OwnL enc E w base' v n l := by
  refine ⟨h.1, ?_⟩
  rcases h.2 with h1 | ⟨g, cap, cur, e, hg, r⟩
  · exact .inl h1
  · exact .inr ⟨g, cap, cur, e, Nat.le_trans hb hg, r⟩
theorem OwnL.lit (w : World) (cs : Array Value) (l : List α) (n : Nat) (hcs : cs = (l.map enc).toArray) (hn : l.length = n) (hb : base ≤ w.heap.size) (hm : n ≤ maxLen) :
    OwnL enc E (w.alloc (.cells cs E)) base (.slice (some ⟨w.heap.size, 0, none⟩) n n) n l := by
  subst hcs
  have := World.ownsRow_lit (e := E) (size := 1) w (l.map enc).toArray n hb hm (by simp [hn])
  simpa [OwnL] using this
theorem grown_below {w w' : World} (h : w.grownBy w' none) : Below w.heap.size w w' := ⟨h.os, h.tape, h.output, h.size, fun k hk => h.block k hk (by simp)⟩
theorem wpList_app {P : Program} {ops : Array Oper} {rest : List Oper} {o : Oper} {a : Act} {Q : Exit → Act → World → Prop} (hgd : o.guard = none) (s x : Operand) (t : TypeId)
    (ho : o.op = .call { callee := .builtin .append, args := #[s, x], argTypes := #[t, t] }) (X : α) {cs : Array Value} (hcs : cs = #[enc X]) {i : TypeInfo} {z : Value} {bytes : Nat}
    (ht : P.underlying t = some (.slice E)) (hi : P.info? E = some i) (hz : i.zero = some z) (hsize : i.size = 1) (hby : i.bytes = bytes) (hzs : z.cells.size = 1) (h1 : (enc X).oneCell' = true)
    (hs : a.eval s = v) (h : OwnL enc E w base v n l) (hx : a.eval x = .slice (some ⟨w.heap.size, 0, none⟩) 1 1) (hb : base ≤ w.heap.size)
    (hlen : (n + 1) * bytes ≤ 140737488355328) (hlen2 : n + 1 ≤ 9223372036854775807)
    (hK : ∀ v' w', OwnL enc E w' base v' (n + 1) (l ++ [X]) → w.grownBy w' v.ownBlock → (v'.ownBlock = v.ownBlock ∨ v'.ownBlock = some (w.heap.size + 1)) → wpList P ops Q rest (a.put o.dst v') w') :
    wpList P ops Q (o :: rest) a (w.alloc (.cells cs E)) := by
  subst hcs
  refine wpList_append_own_at _ hgd s x t ho base E i z 1 bytes ht hi hz hsize hby hzs (by decide) v n (l.map enc) hs (World.ownsRow.alloc h _) ⟨w.heap.size, 0, none⟩ 1 1 [enc X] hx rfl (cell_one_new _ _ _) (by simpa using h1) (by simp only [maxLen]; omega) hlen (by simp; omega) ?_
  intro v' w' h2 h3 h4 h5
  refine hK v' w' (by unfold OwnL; simpa using h2) ((grown_of_below (below_alloc1 w _) _).trans h3) (by simpa using h5)
theorem wpList_mk {P : Program} {ops : Array Oper} {rest : List Oper} {o : Oper} {a : Act} {Q : Exit → Act → World → Prop} (hg : o.guard = none) (lo co : Operand) (t : TypeId) (hop : o.op = Op.makeSlice t lo co)
    {i : TypeInfo} (z : α) {bytes : Nat} (n : Nat) (ht : P.underlying t = some (.slice E)) (hi : P.info? E = some i) (hz : i.zero = some (enc z)) (hsize : i.size = 1) (hby : i.bytes = bytes) (hzc : (enc z).cells = #[enc z])
    (kl kc : IntKind) (L C : Int) (hl : a.eval lo = .int kl L) (hc : a.eval co = .int kc C) (hL : L = (n : Int)) (hC : C = (n : Int)) (hlen : bytes * n ≤ 281474976710656) (hlen2 : n ≤ 9223372036854775807) (hb : base ≤ w.heap.size)
    (hK : ∀ w', OwnL enc E w' base (.slice (some ⟨w.heap.size, 0, none⟩) n n) n (List.replicate n z) → Below w.heap.size w w' → wpList P ops Q rest (a.put o.dst (.slice (some ⟨w.heap.size, 0, none⟩) n n)) w') :
    wpList P ops Q (o :: rest) a w := by
  refine wpList_make_full w hg lo co t hop base E i (enc z) 1 ht hi hz hsize kl kc L C n hl hc hL hC (by rw [hby]; exact hlen) (by simp only [maxLen]; omega) hb ?_
  intro w' h2 h3
  refine hK w' ?_ (grown_below h3)
  unfold OwnL
  rw [hzc, Nat.mul_one, toList_madeCells_one] at h2
  rw [List.map_replicate]
  exact h2
end
end Go.Proofs.Ytillfbohengpaaa
end
section
set_option linter.unusedVariables false
set_option linter.unusedSimpArgs false
namespace Go.Proofs.Ytillfbohengpaaa
open Go.RowKit
def mfind : List (Int × Value) → Int → Nat → Option (Nat × Value)
  | [], _, _ => none
  | p :: m, n, i => if n == p.1 then some (i, p.2) else mfind m n (i + 1)
def mget (m : List (Int × Value)) (n : Int) : Option Value := (mfind m n 0).map (·.2)
def mput (m : List (Int × Value)) (n : Int) (v : Value) : List (Int × Value) :=
  match mfind m n 0 with
  | some (i, _) => m.set i (n, v)
  | none => m ++ [(n, v)]
def MapAt (w : World) (b : Nat) (K : IntKind) (m : List (Int × Value)) : Prop :=
  ∃ es clock, w.heap[b]? = some (.map es clock) ∧ es.toList.map (fun e => (e.key, e.val)) = m.map (fun p => (Value.int K p.1, p.2)) ∧
    (∀ e ∈ es.toList, e.born < clock) ∧ es.toList.Pairwise (fun x y => x.born ≠ y.born)
theorem MapAt.lt {w : World} {b : Nat} {K : IntKind} {m : List (Int × Value)} (h : MapAt w b K m) : b < w.heap.size := by
  obtain ⟨es, c, hb, _⟩ := h
  exact (Array.getElem?_eq_some_iff.1 hb).1
theorem MapAt.kept {w w' : World} {b : Nat} {K : IntKind} {m : List (Int × Value)} (h : MapAt w b K m) (hk : w'.heap[b]? = w.heap[b]?) : MapAt w' b K m := by
  obtain ⟨es, c, hb, r⟩ := h
  exact ⟨es, c, hk.trans hb, r⟩
theorem MapAt.below {w w' : World} {b : Nat} {K : IntKind} {m : List (Int × Value)} (h : MapAt w b K m) (hB : Below w.heap.size w w') : MapAt w' b K m := h.kept (hB.block b h.lt)
theorem MapAt.alloc {w : World} {b : Nat} {K : IntKind} {m : List (Int × Value)} (h : MapAt w b K m) (o : Obj) : MapAt (w.alloc o) b K m := h.kept (Below.heap_alloc w o b h.lt)
theorem MapAt.made (w : World) (K : IntKind) : MapAt (w.alloc (.map #[] 0)) w.heap.size K [] :=
  ⟨#[], 0, heap_alloc_new w _, by simp, by simp, by simp⟩
theorem findNow_int (K K' : IntKind) (n : Int) : ∀ (es : List MapEntry) (m : List (Int × Value)) (i : Nat), es.map (fun e => (e.key, e.val)) = m.map (fun p => (Value.int K p.1, p.2)) →
    Instr.findNow (.int K') (.int K n) es i = some (mfind m n i) := by
  intro es
  induction es with
  | nil =>
    intro m i h
    cases m with
    | nil => rfl
    | cons p m => simp at h
  | cons e es ih =>
    intro m i h
    cases m with
    | nil => simp at h
    | cons p m =>
      simp only [List.map_cons, List.cons.injEq, Prod.mk.injEq] at h
      obtain ⟨⟨hk, hv⟩, ht⟩ := h
      unfold Instr.findNow mfind
      rw [hk]
      simp only [Instr.sameNow, if_true]
      cases hq : (n == p.1) with
      | true => simp [hv]
      | false => simp [ih m (i + 1) ht]
theorem mfind_lt (n : Int) : ∀ (m : List (Int × Value)) (i : Nat) (j : Nat) (v : Value), mfind m n i = some (j, v) → i ≤ j ∧ j < i + m.length := by
  intro m
  induction m with
  | nil => intro i j v h; simp [mfind] at h
  | cons p m ih =>
    intro i j v h
    unfold mfind at h
    split at h
    · simp only [Option.some.injEq, Prod.mk.injEq] at h; obtain ⟨rfl, _⟩ := h; simp
    · have := ih _ _ _ h; simp; omega
section
variable {P : Program} {w : World} {b : Nat} {K : IntKind} {m : List (Int × Value)} {t k e : TypeId}
theorem run_findKey_i (hk : P.underlying k = some (.int K)) (es : Array MapEntry) (he : es.toList.map (fun e => (e.key, e.val)) = m.map (fun p => (Value.int K p.1, p.2))) (n : Int) :
    (Instr.findKey k (.int K n) es.toList).run P w = .ok (mfind m n 0) w := by
  unfold Instr.findKey
  simp only [Sem.run_bind, run_underlying hk, Result.andThen_ok, findNow_int K K n es.toList m 0 he, Sem.run_pure]
theorem run_checkKey_i (hk : P.underlying k = some (.int K)) (em : Bool) (n : Int) : (Instr.checkKey em 10000 k (.int K n)).run P w = .ok () w := by
  show (Instr.checkKey em (9999 + 1) k (.int K n)).run P w = .ok () w
  unfold Instr.checkKey
  simp [Sem.run_bind, run_underlying hk]
theorem run_lookup_i (h : MapAt w b K m) (ht : P.underlying t = some (.map k e)) (hk : P.underlying k = some (.int K)) {z : Value} (hz : ∀ w, (zeroValue e).run P w = .ok z w) (n : Int) :
    (Instr.lookup t (.map (some b)) (.int K n) false).run P w = .ok ((mget m n).getD z) w := by
  obtain ⟨es, c, hb, he, _⟩ := h
  unfold Instr.lookup
  simp only [Sem.run_bind, run_underlying ht, Result.andThen_ok, getObj, Sem.run, hb, Sem.run_pure, run_checkKey_i hk, run_findKey_i hk es he]
  unfold mget
  cases mfind m n 0 with
  | none => simp [Sem.run_bind, hz]
  | some p => simp
theorem run_update_i (h : MapAt w b K m) (ht : P.underlying t = some (.map k e)) (hk : P.underlying k = some (.int K)) (n : Int) (v : Value) :
    ∃ w', (Instr.mapUpdate t (.map (some b)) (.int K n) v).run P w = .ok () w' ∧ MapAt w' b K (mput m n v) ∧ w.grownBy w' (some b) := by
  obtain ⟨es, c, hb, he, hc, hp⟩ := h
  have hlt := (Array.getElem?_eq_some_iff.1 hb).1
  have put : ∀ o : Obj, ∀ i, i < w.heap.size → some i ≠ some b → ({ w with heap := w.heap.setIfInBounds b o } : World).heap[i]? = w.heap[i]? := fun o i hi hne => by
    simp only [Array.getElem?_setIfInBounds]
    rw [if_neg (fun e => hne (by rw [e]))]
  have hlen : es.toList.length = m.length := by have := congrArg List.length he; simpa using this
  unfold Instr.mapUpdate mput
  simp only [Sem.run_bind, run_underlying ht, Result.andThen_ok, getObj, Sem.run, hb, Sem.run_pure, run_checkKey_i hk, run_findKey_i hk es he]
  cases hq : mfind m n 0 with
  | none =>
    simp only [setObj, Sem.run, hb]
    refine ⟨_, rfl, ⟨es.push { key := .int K n, val := v, born := c }, c + 1, by simp [Array.getElem?_setIfInBounds, hlt], ?_, ?_, ?_⟩, ⟨rfl, rfl, rfl, by simp, fun i hi hne => put _ i hi hne⟩⟩
    · simp [he]
    · intro x hx
      simp only [Array.toList_push, List.mem_append, List.mem_singleton] at hx
      rcases hx with hx | rfl
      · have := hc x hx; omega
      · simp
    · simp only [Array.toList_push, List.pairwise_append, List.pairwise_cons, List.not_mem_nil, false_imp_iff, implies_true, List.Pairwise.nil, and_self, List.mem_singleton, forall_eq, true_and]
      exact ⟨hp, fun x hx => by have := hc x hx; omega⟩
  | some p =>
    obtain ⟨i, v0⟩ := p
    have hi := (mfind_lt n m 0 i v0 hq).2
    have hik : ∃ x, es[i]? = some x ∧ x.key = .int K n := by
      have hi' : i < es.size := by simp at hlen; omega
      refine ⟨es[i], by simp [hi'], ?_⟩
      have hkey : ∀ (m : List (Int × Value)) (j i : Nat) (v : Value), mfind m n j = some (i, v) → ∃ q, m[i - j]? = some q ∧ q.1 = n := by
        intro m
        induction m with
        | nil => intro j i v h; simp [mfind] at h
        | cons p m ih =>
          intro j i v h
          unfold mfind at h
          split at h
          · rename_i hn
            simp only [Option.some.injEq, Prod.mk.injEq] at h
            obtain ⟨rfl, _⟩ := h
            exact ⟨p, by simp, by simpa using (eq_of_beq hn).symm⟩
          · have hl := mfind_lt n m (j + 1) i v h
            obtain ⟨q, hq, hn⟩ := ih _ _ _ h
            refine ⟨q, ?_, hn⟩
            have : i - j = (i - (j + 1)) + 1 := by omega
            rw [this]; simpa using hq
      obtain ⟨q, hq1, hq2⟩ := hkey m 0 i v0 hq
      have h1 : (es.toList.map (fun e => (e.key, e.val)))[i]? = (m.map (fun p => (Value.int K p.1, p.2)))[i]? := by rw [he]
      simp only [Nat.sub_zero] at hq1
      simp only [List.getElem?_map, hq1, Option.map_some, Array.getElem?_toList] at h1
      have h2 : es[i]? = some es[i] := by simp [hi']
      rw [h2] at h1
      simp only [Option.map_some, Option.some.injEq, Prod.mk.injEq] at h1
      rw [h1.1, hq2]
    obtain ⟨x, hx, hxk⟩ := hik
    simp only [hx, Option.map_some, Option.getD_some, hxk]
    have hstay : (Instr.keyThatStays (.int K n) (.int K n)).run P w = .ok (.int K n) w := by
      unfold Instr.keyThatStays
      have : Instr.sameBits 10000 (.int K n) (.int K n) = true := by
        show Instr.sameBits (9999 + 1) _ _ = true
        unfold Instr.sameBits
        simp
      simp [this]
    simp only [hstay, Sem.run_bind, Result.andThen_ok, setObj, Sem.run, hb]
    have hborn : (es.modify i fun e => { e with key := .int K n, val := v }).toList.map (·.born) = es.toList.map (·.born) := by
      apply List.ext_getElem?
      intro j
      simp only [List.getElem?_map, Array.getElem?_toList, Array.getElem?_modify]
      split
      · cases es[j]? <;> rfl
      · rfl
    refine ⟨_, rfl, ⟨es.modify i fun e => { e with key := .int K n, val := v }, c, by simp [Array.getElem?_setIfInBounds, hlt], ?_, ?_, ?_⟩, ⟨rfl, rfl, rfl, by simp, fun i hi hne => put _ i hi hne⟩⟩
    · apply List.ext_getElem?
      intro j
      have hj := congrArg (fun l => l[j]?) he
      simp only [List.getElem?_map, Array.getElem?_toList] at hj
      simp only [List.getElem?_map, Array.getElem?_toList, Array.getElem?_modify, List.getElem?_set]
      by_cases e : i = j
      · subst e
        simp only [if_true, hx, Option.map_some]
        rw [if_pos (by omega)]
        rfl
      · simp only [e, if_false]
        exact hj
    · intro y hy
      have : y.born ∈ (es.modify i fun e => { e with key := .int K n, val := v }).toList.map (·.born) := List.mem_map.2 ⟨y, hy, rfl⟩
      rw [hborn] at this
      obtain ⟨z, hz, hzb⟩ := List.mem_map.1 this
      rw [← hzb]
      exact hc z hz
    · have h1 : (es.toList.map (·.born)).Pairwise (fun x y => x ≠ y) := List.pairwise_map.2 hp
      rw [← hborn] at h1
      exact List.pairwise_map.1 h1
end
end Go.Proofs.Ytillfbohengpaaa
end
section
set_option linter.unusedVariables false
set_option linter.unusedSimpArgs false
namespace Go.Proofs.Ytillfbohengpaaa
open Go.RowKit Gf
def setm (s : List G) : List (Int × Value) := s.map fun x => ((x.toNat : Int), Value.bool true)
theorem G_int_inj (x y : G) : ((x.toNat : Int) == (y.toNat : Int)) = (x == y) := by
  rw [Bool.eq_iff_iff, beq_iff_eq, beq_iff_eq]
  constructor
  · intro h; exact BitVec.eq_of_toNat_eq (by omega)
  · rintro rfl; rfl
theorem mfind_set (x : G) : ∀ (s : List G) (i : Nat), (x ∈ s → ∃ j, mfind (setm s) (x.toNat : Int) i = some (j, .bool true) ∧ i ≤ j ∧ (setm s)[j - i]? = some ((x.toNat : Int), .bool true)) ∧ (x ∉ s → mfind (setm s) (x.toNat : Int) i = none) := by
  intro s
  induction s with
  | nil => intro i; exact ⟨fun h => by simp at h, fun _ => rfl⟩
  | cons y s ih =>
    intro i
    simp only [setm, List.map_cons, mfind, G_int_inj]
    by_cases e : x = y
    · subst e
      simp only [beq_self_eq_true, if_true]
      exact ⟨fun _ => ⟨i, rfl, Nat.le_refl _, by simp⟩, fun h => by simp at h⟩
    · have : (x == y) = false := by simpa using e
      simp only [this, Bool.false_eq_true, if_false, List.mem_cons, e, false_or]
      refine ⟨fun h => ?_, fun h => (ih (i + 1)).2 h⟩
      obtain ⟨j, h1, h2, h3⟩ := (ih (i + 1)).1 h
      refine ⟨j, h1, by omega, ?_⟩
      have : j - i = (j - (i + 1)) + 1 := by omega
      rw [this]; simpa [setm] using h3
theorem mget_set (x : G) (s : List G) : (mget (setm s) (x.toNat : Int)).getD (.bool false) = .bool (decide (x ∈ s)) := by
  unfold mget
  by_cases h : x ∈ s
  · obtain ⟨j, h1, _⟩ := (mfind_set x s 0).1 h
    simp [h1, h]
  · simp [(mfind_set x s 0).2 h, h]
theorem mput_set (x : G) (s : List G) : mput (setm s) (x.toNat : Int) (.bool true) = setm (if x ∈ s then s else s ++ [x]) := by
  unfold mput
  by_cases h : x ∈ s
  · obtain ⟨j, h1, h2, h3⟩ := (mfind_set x s 0).1 h
    simp only [h1, h, if_true]
    simp only [Nat.sub_zero] at h3
    apply List.ext_getElem?
    intro i
    rw [List.getElem?_set]
    split
    · rename_i e; subst e; rw [h3]; have := (List.getElem?_eq_some_iff.1 h3).1; simp [this]
    · rfl
  · simp only [(mfind_set x s 0).2 h, h, if_false]
    simp [setm]
def memB (x : G) (s : List G) : Bool := decide (x ∈ s)
def addS (x : G) (s : List G) : List G := if x ∈ s then s else s ++ [x]
theorem again_u (x : G) (s : List G) (C b : Nat) (w : World) (hc : w.cell? ⟨C, 0, none⟩ = some (.map (some b))) (hm : MapAt w b .u8 (setm s)) :
    Calls Try.prog 55 #[gv x, .pointer (some ⟨C, 0, none⟩)] w fun e w' => e = .returned (.bool (memB x s)) ∧ MapAt w' b .u8 (setm (addS x s)) ∧ w.grownBy w' (some b) := by
  have hlk := run_lookup_i (P := Try.prog) (t := 70) (e := 4) hm Try.underlying70 Try.underlying5 (z := .bool false) (fun w => by kernel_rfl) (x.toNat : Int)
  rw [mget_set] at hlk
  change _ = Result.ok (Value.bool (memB x s)) w at hlk
  obtain ⟨w1, hup, hm1, hg1⟩ := run_update_i (P := Try.prog) (t := 70) (e := 4) hm Try.underlying70 Try.underlying5 (x.toNat : Int) (.bool true)
  rw [mput_set] at hm1
  change MapAt w1 b .u8 (setm (addS x s)) at hm1
  go_enter Try.func55, Try.ntmps55
  go_wp2_with fail
  go_ret
  exact ⟨rfl, hm1, hg1⟩
set_option maxHeartbeats 1000000 in
theorem points_u (A B : Option Addr) (n m c d : Nat) (xs : List G) (w : World) (hx : RL gv w A n xs) :
    Calls Try.prog 38 #[.slice A n c, .slice B m d] w fun e w' => e = .returned (.bool (decide (xs.Nodup ∧ n = m))) ∧ Below w.heap.size w w' := by
  have hmm := @run_makeMap Try.prog
  have hlen := hx.2.1
  obtain rfl := hx.1
  have HX := Lib.hid hx; clear hx
  go_enter Try.func38, Try.ntmps38
  go_wp2_with fail
  clear hmm
  generalize hW0 : (w.alloc (Obj.map #[] 0)).alloc _ = W0
  have hB0 : Below w.heap.size w W0 := by rw [← hW0]; exact balloc (below_alloc1 _ _) _
  have hM0 : MapAt W0 w.heap.size .u8 (setm []) := by rw [← hW0]; exact (MapAt.made w .u8).alloc _
  have hc0 : W0.cell? ⟨w.heap.size + 1, 0, none⟩ = some (.map (some w.heap.size)) := by rw [← hW0, cell_new _ _ _ _ _ _ (by simp)]; rfl
  clear hW0
  go_loopw [8, 13] (fun _ si wr => ∃ k : Nat, k ≤ xs.length ∧ si = .int .i64 k ∧ (xs.take k).Nodup ∧ MapAt wr w.heap.size .u8 (setm (xs.take k)) ∧ wr.cell? ⟨w.heap.size + 1, 0, none⟩ = some (.map (some w.heap.size)) ∧ Below w.heap.size w wr) (fun _ si _ => xs.length - (intOf si).toNat)
  case atStart => exact ⟨0, by omega, rfl, by simp, hM0, hc0, hB0⟩
  case round =>
    obtain ⟨k, hk, rfl, hnd, hM, hc, hB⟩ := hrel
    by_cases hlt : k < xs.length
    · obtain ⟨b, o, rfl, hb, hcb⟩ := HX.out.2.2 k hlt
      have hcw := (hB.cell (p := ⟨b, o + k, none⟩) hb).trans hcb
      have hND := Lib.hid hnd; clear hnd hM0 hc0 hB0 hcb
      cases hmem : memB xs[k] (xs.take k) with
      | true =>
        have HM := Lib.hid hmem; clear hmem
        go_wp2_with fail
        refine (again_u _ _ _ _ _ hc hM).mono ?_
        rintro e w2 ⟨rfl, _, hg⟩
        rw [HM.out]
        go_wp2_with fail
        go_ret
        have hno : decide (xs.Nodup ∧ xs.length = m) = false := by
          have hm : xs[k] ∈ xs.take k := of_decide_eq_true HM.out
          refine decide_eq_false fun h => ?_
          have hd := h.1
          rw [← List.take_append_drop k xs, List.nodup_append] at hd
          have hmd : xs[k] ∈ xs.drop k := by rw [List.drop_eq_getElem_cons hlt]; exact List.mem_cons_self
          exact hd.2.2 _ hm _ hmd rfl
        rw [hno]
        exact ⟨rfl, hB.grown hg hB.size (fun j e => by cases e; exact Nat.le_refl _)⟩
      | false =>
        have HM := Lib.hid hmem; clear hmem
        go_wp2_with fail
        refine (again_u _ _ _ _ _ hc hM).mono ?_
        rintro e w2 ⟨rfl, hM2, hg⟩
        rw [HM.out]
        have hnot : xs[k] ∉ xs.take k := of_decide_eq_false HM.out
        have hadd : addS xs[k] (xs.take k) = xs.take (k + 1) := by
          unfold addS
          rw [if_neg hnot, List.take_succ_eq_append_getElem hlt]
        rw [hadd] at hM2
        have hnd2 : (xs.take (k + 1)).Nodup := by
          rw [List.take_succ_eq_append_getElem hlt, List.nodup_append]
          exact ⟨hND.out, by simp, fun a ha b hb e => by simp at hb; subst hb; subst e; exact hnot ha⟩
        have hc2 := hg.cell hc (by simp)
        clear hadd hnot
        have HN := Lib.hid hnd2; clear hnd2
        go_wp2_with fail
        go_roundw
        case rel => exact ⟨k + 1, by omega, by go_num, HN.out, hM2, hc2, hB.grown hg hB.size (fun j e => by cases e; exact Nat.le_refl _)⟩
        case measure => simp [intOf]; omega
    · obtain rfl : k = xs.length := by omega
      have HN := Lib.hid hnd; clear hnd
      go_wp2_with fail
      go_ret
      have hn : xs.Nodup := by have := HN.out; rwa [List.take_length] at this
      refine ⟨?_, hB⟩
      simp only [hn, true_and]
      rw [nat_beq]
      rfl
end Go.Proofs.Ytillfbohengpaaa
end
section
set_option linter.unusedVariables false
set_option linter.unusedSimpArgs false
namespace Go.Proofs.Ytillfbohengpaaa
open Go.RowKit
def SeqJ {α : Type} (F : Fence) (n : Nat) (P : Program) (gf : Nat) (lb : Array Value) (encs : α → Array Value) (Bd : List α → World → Prop) (Nx : List α → α → Prop) (S Sp : List α → Prop) (w : World) : Prop :=
  ∀ (l : Nat) (J Jx : List α → World → Prop) (W : World), Below w.heap.size w W → AbidesFrom W.heap.size J → (∀ pre W1, J pre W1 → Bd pre W1) →
    (∀ pre x W1, J pre W1 → Nx pre x → YieldAt F (n - 1) P l (encs x) W1 fun e W' => (e = .returned (.bool true) ∧ J (pre ++ [x]) W') ∨ (e = .returned (.bool false) ∧ Jx (pre ++ [x]) W')) →
    J [] W →
    CallsIn F n P gf (#[.func (.yield l) #[] #[]] ++ lb) W fun e W' => (∃ v, e = .returned v) ∧ ((∃ xs, S xs ∧ J xs W') ∨ (∃ pre, Sp pre ∧ Jx pre W'))
def postJ {α : Type} (I : List α → World → Prop) (Ix : Code → List α → World → Prop) (xs : List α) (W : World) : Exit → Act → World → Prop
  | .normal, _, W' => KeepsOthers W W' ∧ I xs W'
  | .ret, _, W' => KeepsOthers W W' ∧ Ix .ret xs W'
  | .exit id, _, W' => KeepsOthers W W' ∧ Ix (.exit id) xs W'
  | .goto t, _, W' => KeepsOthers W W' ∧ Ix (.goto t) xs W'
  | .panic _, _, _ => False
  | .outgrown, _, _ => False
variable {F : Fence} {n : Nat} {P : Program}
theorem rangeFuncJ {α : Type} {g : Operand} {ps : Array Tmp} {assign body : Code} {Q : Exit → Act → World → Prop} {a : Act} {w : World}
    (hro : F.round = none) (h1 : 1 ≤ n) {gf : Nat} {lb : Array Value} (hg : a.eval g = .func (.func gf) #[] lb) (hFg : F.fn gf) (eg : ∀ args w, (callFunc gf args).run P w = .ok (.enter gf args) w)
    {encs : α → Array Value} {Bd : List α → World → Prop} {Nx : List α → α → Prop} {S Sp : List α → Prop} (hseq : SeqJ F (n - 1) P gf lb encs Bd Nx S Sp w) (hps : ∀ x, (encs x).size = ps.size)
    (I : List α → World → Prop) (Ix : Code → List α → World → Prop) (hI : OwnFrom w.heap.size I) (hIx : ∀ c, OwnFrom w.heap.size (Ix c)) (hBd : ∀ pre W, I pre W → Bd pre W) (h0 : I [] w) (a₁ : α → Act)
    (hassign : ∀ (l : Nat) (x : α) (W : World) (K : Act → World → Prop), K (a₁ x) W →
      assign.wpIn (F.inRound l) (n - 1 - 1) P (Exit.then K (fun _ _ _ => False)) { tmps := (ps.zip (encs x)).foldl (fun t (p, v) => t.setIfInBounds p v) a.tmps, defers := [] } W)
    (hbody : ∀ (l : Nat) (pre : List α) (x : α) (W : World), I pre W → Nx pre x → body.wpIn (F.inRound l) (n - 1 - 1) P (postJ I Ix (pre ++ [x]) W) (a₁ x) W)
    (hdone : ∀ (D : Nat) (xs : List α) (W : World), w.heap.size ≤ D → S xs → I xs W → W.heap[D]? = some (.deferred (some [])) → Q .normal { a with defers := { target := .collected D, args := #[] } :: a.defers } W)
    (hstop : ∀ (D : Nat) (c : Code) (pre : List α) (W : World), w.heap.size ≤ D → Sp pre → Ix c pre W → W.heap[D]? = some (.deferred (some [])) → c.wpIn F n P Q { a with defers := { target := .collected D, args := #[] } :: a.defers } W) :
    (Code.rangeFunc g ps assign body).wpIn F n P Q a w := by
  refine wpIn_rangeFunc ?_
  intro fn hfn
  rw [hro]
  obtain ⟨rec, hrec⟩ : ∃ rec : LoopState → Option Code → Loop, rec = fun st pe => { state := st, pending := pe, fn, tmps := a.tmps, params := ps, assign, body, defers := w.heap.size } := ⟨_, rfl⟩
  obtain ⟨W1, hW1⟩ : ∃ W1, (w.alloc (.deferred (some []))).alloc (.loop (rec .ready none)) = W1 := ⟨_, rfl⟩
  have hL1 : W1.heap[w.heap.size + 1]? = some (.loop (rec .ready none)) := by
    rw [← hW1]; have := World.alloc_heap_new (w.alloc (.deferred (some []))) (.loop (rec .ready none)); rwa [World.size_alloc] at this
  have hK1 : W1.heap[w.heap.size]? = some (.deferred (some [])) := by
    rw [← hW1]; exact (Below.heap_alloc _ _ _ (by simp)).trans (World.alloc_heap_new w _)
  have hI1 : I [] W1 := by rw [← hW1]; exact hI.alloc _ (hI.alloc _ h0)
  have hb1 : Below w.heap.size w W1 := by
    rw [← hW1]; exact ((Below.refl _ w).alloc (Nat.le_refl _) _).alloc (by simp) _
  refine ⟨w.heap.size + 1, [{ target := .collected w.heap.size, args := #[] }], W1, { target := .fn (.func gf) lb, args := #[.func (.yield (w.heap.size + 1)) #[] #[]] }, W1, gf,
    #[.func (.yield (w.heap.size + 1)) #[] #[]] ++ lb, W1, ?_, ?_, ?_, ?_, fun _ => h1, ?_⟩
  · rw [← hW1, hrec]; exact run_enterLoop_outer _ _ _ _ _
  · simp only [resolve, hg]
    simp [go_sem]
  · intro f' hf'; simp [Target.leads] at hf'; subst hf'; exact hFg
  · simp [invoke, go_sem, eg]
  · have hnw : ∀ {A B : World} {row : Option Nat}, (∀ r, row = some r → W1.heap.size ≤ r ∧ ∃ o : Obj, A.heap[r]? = some o ∧ o.isWalk = true) → (∀ r, row = some r → w.heap.size ≤ r ∧ ∃ o : Obj, A.heap[r]? = some o ∧ o.isCells = false) :=
      fun hr r e => by obtain ⟨hB, o, ho, hw⟩ := hr r e; exact ⟨by rw [← hW1] at hB; simp at hB; omega, o, ho, Obj.not_cells_of_walk hw⟩
    refine (hseq (w.heap.size + 1)
      (fun pre W => I pre W ∧ W.heap[w.heap.size + 1]? = some (.loop (rec .ready none)) ∧ W.heap[w.heap.size]? = some (.deferred (some [])))
      (fun pre W => ∃ c, Ix c pre W ∧ W.heap[w.heap.size + 1]? = some (.loop (rec .done (some c))) ∧ W.heap[w.heap.size]? = some (.deferred (some [])))
      W1 hb1
      (fun s A B row hs hg' hr => ⟨hI s A B row hs.1 hg' (hnw (B := B) hr), (grownBy_keeps hg' (fun r e => (hr r e).2) hs.2.1 rfl).trans hs.2.1, (grownBy_keeps hg' (fun r e => (hr r e).2) hs.2.2 rfl).trans hs.2.2⟩)
      (fun pre A hs => hBd pre A hs.1)
      ?_ ⟨hI1, hL1, hK1⟩).mono ?_
    · rintro pre x W ⟨hi, hl, hk⟩ hnx
      have hlt : w.heap.size + 1 < W.heap.size := (Array.getElem?_eq_some_iff.1 hl).1
      have hy := run_yield (P := P) (args := encs x) hl (by rw [hrec]; exact hps x)
      rw [hrec] at hy
      refine ⟨fn, _, assign, body, hy, roundIn_of_wpIn hfn (hassign _ x W _ ⟨_, run_beginRound hl (by rw [hrec]), ?_⟩)⟩
      have hl2 : (W.putObj (w.heap.size + 1) (.loop { rec .ready none with state := .busy })).heap[w.heap.size + 1]? = some (.loop { rec .ready none with state := .busy }) := World.putObj_heap_same hlt
      have hk2 : (W.putObj (w.heap.size + 1) (.loop { rec .ready none with state := .busy })).heap[w.heap.size]? = some (.deferred (some [])) := (World.putObj_heap_other (by omega)).trans hk
      refine wpIn_mono (hbody _ pre x _ (hI.putObj _ hi (by omega) hl rfl) hnx) ?_
      have fin : ∀ (jump : Option Code) (W3 : World), KeepsOthers (W.putObj (w.heap.size + 1) (.loop { rec .ready none with state := .busy })) W3 →
          (Instr.endRound (w.heap.size + 1) jump).run P W3 = .ok (.bool jump.isNone) (W3.putObj (w.heap.size + 1) (.loop (rec (if jump.isNone then .ready else .done) jump))) ∧
          W3.heap[w.heap.size + 1]? = some (.loop { rec .ready none with state := .busy }) ∧
          (W3.putObj (w.heap.size + 1) (.loop (rec (if jump.isNone then .ready else .done) jump))).heap[w.heap.size + 1]? = some (.loop (rec (if jump.isNone then .ready else .done) jump)) ∧
          (W3.putObj (w.heap.size + 1) (.loop (rec (if jump.isNone then .ready else .done) jump))).heap[w.heap.size]? = some (.deferred (some [])) := fun jump W3 hk3 => by
        have hl3 := hk3.same _ _ hl2 rfl
        have := run_endRound (P := P) jump hl3
        rw [hrec] at this ⊢
        exact ⟨this, by rw [hrec] at hl3; exact hl3, World.putObj_heap_same (Array.getElem?_eq_some_iff.1 hl3).1, (World.putObj_heap_other (by omega)).trans (hk3.same _ _ hk2 rfl)⟩
      rintro e a3 W3 hp
      cases e with
      | normal =>
        obtain ⟨hk3, hi3⟩ := hp
        obtain ⟨hr, hl3, hl4, hk4⟩ := fin none W3 hk3
        exact ⟨_, _, hr, .inl ⟨rfl, hI.putObj _ hi3 (by omega) hl3 rfl, hl4, hk4⟩⟩
      | ret =>
        obtain ⟨hk3, hi3⟩ := hp
        obtain ⟨hr, hl3, hl4, hk4⟩ := fin (some .ret) W3 hk3
        exact ⟨_, _, hr, .inr ⟨rfl, .ret, (hIx _).putObj _ hi3 (by omega) hl3 rfl, hl4, hk4⟩⟩
      | exit id =>
        obtain ⟨hk3, hi3⟩ := hp
        obtain ⟨hr, hl3, hl4, hk4⟩ := fin (some (.exit id)) W3 hk3
        exact ⟨_, _, hr, .inr ⟨rfl, .exit id, (hIx _).putObj _ hi3 (by omega) hl3 rfl, hl4, hk4⟩⟩
      | goto t =>
        obtain ⟨hk3, hi3⟩ := hp
        obtain ⟨hr, hl3, hl4, hk4⟩ := fin (some (.goto t)) W3 hk3
        exact ⟨_, _, hr, .inr ⟨rfl, .goto t, (hIx _).putObj _ hi3 (by omega) hl3 rfl, hl4, hk4⟩⟩
      | panic ch => exact hp.elim
      | outgrown => exact hp.elim
    · rintro e W2 ⟨⟨v, rfl⟩, (⟨xs, hS, hi, hl, hk⟩ | ⟨pre, hSp, c, hi, hl, hk⟩)⟩
      · exact ⟨none, _, by have := run_endLoop (P := P) hl (by rw [hrec]; simp); rw [hrec] at this; exact this, hdone _ xs _ (Nat.le_refl _) hS (hI.putObj _ hi (by omega) hl rfl) ((World.putObj_heap_other (by omega)).trans hk)⟩
      · exact ⟨some c, _, by have := run_endLoop (P := P) hl (by rw [hrec]; simp); rw [hrec] at this; exact this, hstop _ c pre _ (Nat.le_refl _) hSp ((hIx c).putObj _ hi (by omega) hl rfl) ((World.putObj_heap_other (by omega)).trans hk)⟩
theorem keepsOthers_below {W W' : World} (h : Below W.heap.size W W') : KeepsOthers W W' :=
  ⟨h.size, fun k o hk _ => (h.block k (Array.getElem?_eq_some_iff.1 hk).1).trans hk⟩
end Go.Proofs.Ytillfbohengpaaa
end
section
set_option linter.unusedVariables false
set_option linter.unusedSimpArgs false
namespace Go.Proofs.Ytillfbohengpaaa
open Go.RowKit Gf
theorem twice_u (x : G) (w : World) : Calls Try.prog 37 #[.int .u8 (x.toNat : Int)] w fun e w' => e = .returned (.int .u8 ((tw x).toNat : Int)) ∧ w = w' := by
  by_cases h : 128 ≤ x.toNat
  · have H := Lib.hid (tw_hi x h)
    have h' : (128 : Int) ≤ (x.toNat : Int) := by omega
    clear h
    have hx := G_le x
    generalize hn : (x.toNat : Int) = n at *
    clear hn
    go_enter Try.func37, Try.ntmps37
    go_wp2
    go_ret
    exact ⟨by rw [H.out]; rfl, rfl⟩
  · have h2 : (x.toNat : Int) * 2 = ((tw x).toNat : Int) := by have := tw_lo x h; have := G_le x; omega
    have H := Lib.hid h2
    clear h2
    have h' : (x.toNat : Int) < 128 := by omega
    clear h
    have hx' := G_ge x
    generalize hn : (x.toNat : Int) = n at *
    clear hn
    go_enter Try.func37, Try.ntmps37
    go_wp2
    go_ret
    exact ⟨by rw [H.out]; rfl, rfl⟩
def tab (k : Nat) (a : G) : Array Value := ((List.range 8).map fun j => Value.int .u8 (if j < k then ((pw j a).toNat : Int) else 0)).toArray
theorem tab_get (k : Nat) (a : G) (h : k < 8) : ∃ v, (tab k a)[k]? = some v := by
  simp [tab, h]
theorem tab_set (k : Nat) (a : G) : (tab k a).setIfInBounds k (.int .u8 ((pw k a).toNat : Int)) = tab (k+1) a := by
  apply Array.ext'
  simp only [tab, Array.toList_setIfInBounds]
  apply List.ext_getElem
  · simp
  · intro i h1 h2
    simp [List.getElem_set]
    by_cases e : k = i
    · subst e; simp
    · simp [e]
      have : i < k ↔ i < k + 1 := by omega
      simp [this]
theorem tab_index0 (a : G) (w : World) : (Instr.index 56 (.agg (tab 8 a)) (.int .i64 0)).run Try.prog w = .ok (.int .u8 ((pw 0 a).toNat : Int)) w := by kernel_rfl
theorem tab_index1 (a : G) (w : World) : (Instr.index 56 (.agg (tab 8 a)) (.int .i64 1)).run Try.prog w = .ok (.int .u8 ((pw 1 a).toNat : Int)) w := by kernel_rfl
theorem tab_index2 (a : G) (w : World) : (Instr.index 56 (.agg (tab 8 a)) (.int .i64 2)).run Try.prog w = .ok (.int .u8 ((pw 2 a).toNat : Int)) w := by kernel_rfl
theorem tab_index3 (a : G) (w : World) : (Instr.index 56 (.agg (tab 8 a)) (.int .i64 3)).run Try.prog w = .ok (.int .u8 ((pw 3 a).toNat : Int)) w := by kernel_rfl
theorem tab_index4 (a : G) (w : World) : (Instr.index 56 (.agg (tab 8 a)) (.int .i64 4)).run Try.prog w = .ok (.int .u8 ((pw 4 a).toNat : Int)) w := by kernel_rfl
theorem tab_index5 (a : G) (w : World) : (Instr.index 56 (.agg (tab 8 a)) (.int .i64 5)).run Try.prog w = .ok (.int .u8 ((pw 5 a).toNat : Int)) w := by kernel_rfl
theorem tab_index6 (a : G) (w : World) : (Instr.index 56 (.agg (tab 8 a)) (.int .i64 6)).run Try.prog w = .ok (.int .u8 ((pw 6 a).toNat : Int)) w := by kernel_rfl
theorem tab_index7 (a : G) (w : World) : (Instr.index 56 (.agg (tab 8 a)) (.int .i64 7)).run Try.prog w = .ok (.int .u8 ((pw 7 a).toNat : Int)) w := by kernel_rfl
theorem tab_index (a : G) (k : Nat) (h : k < 8) (w : World) : (Instr.index 56 (.agg (tab 8 a)) (.int .i64 k)).run Try.prog w = .ok (.int .u8 ((pw k a).toNat : Int)) w := by
  have hk : k = 0 ∨ k = 1 ∨ k = 2 ∨ k = 3 ∨ k = 4 ∨ k = 5 ∨ k = 6 ∨ k = 7 := by omega
  rcases hk with rfl | rfl | rfl | rfl | rfl | rfl | rfl | rfl
  · exact tab_index0 a w
  · exact tab_index1 a w
  · exact tab_index2 a w
  · exact tab_index3 a w
  · exact tab_index4 a w
  · exact tab_index5 a w
  · exact tab_index6 a w
  · exact tab_index7 a w
theorem tab_lit (a : G) : tab 8 a = #[.int .u8 ((pw 0 a).toNat : Int), .int .u8 ((pw 1 a).toNat : Int), .int .u8 ((pw 2 a).toNat : Int), .int .u8 ((pw 3 a).toNat : Int), .int .u8 ((pw 4 a).toNat : Int), .int .u8 ((pw 5 a).toNat : Int), .int .u8 ((pw 6 a).toNat : Int), .int .u8 ((pw 7 a).toNat : Int)] := rfl
set_option maxHeartbeats 400000 in
theorem mul_u (a b : G) (w : World) :
    Calls Try.prog 18 #[.int .u8 (a.toNat : Int), .int .u8 (b.toNat : Int)] w fun e w' => e = .returned (.int .u8 ((mul a b).toNat : Int)) ∧ Below w.heap.size w w' := by
  go_enter Try.func18, Try.ntmps18
  go_wp2_with fail
  go_loopw [0, 6, 9, 16] (fun sa _ si _ wr => ∃ (k : Nat), k ≤ 8 ∧ si = .int .i64 k ∧ sa = .int .u8 ((pw k a).toNat : Int) ∧ wr = w.alloc (.cells (tab k a) 56)) (fun _ _ si _ _ => 8 - (intOf si).toNat)
  case atStart => exact ⟨0, by omega, rfl, rfl, rfl⟩
  case round =>
    obtain ⟨k, hk, rfl, rfl, rfl⟩ := hrel
    by_cases hlt : k < 8
    · obtain ⟨v, hv⟩ := tab_get k a hlt
      go_wp2_with (go_at_call 37; refine (twice_u _ _).mono ?_; rintro e w' ⟨rfl, rfl⟩)
      go_roundw
      case rel => exact ⟨k+1, by omega, by go_num, rfl, by rw [← tab_set k a]⟩
      case measure => simp [intOf]; omega
    · obtain rfl : k = 8 := by omega
      rw [tab_lit]
      go_wp2_with fail
      rw [← tab_lit]
      go_loop [4, 7, 8, 19] (fun sc _ _ si => ∃ (k : Nat), k ≤ 8 ∧ si = .int .i64 k ∧ sc = .int .u8 ((gpart a b k).toNat : Int)) (fun _ _ _ si => 8 - (intOf si).toNat)
      case atStart => exact ⟨0, by omega, rfl, rfl⟩
      case round =>
        obtain ⟨k, hk, rfl, rfl⟩ := hrel
        by_cases hlt : k < 8
        · have hix := tab_index a k hlt
          have hbit := bits_and_bit b k hlt
          have e8 : (min (k : Int).toNat 8) = k := by simp; omega
          rw [e8] at hbit
          have hp : gpart a b (k + 1) = if b.getLsbD k then gpart a b k ^^^ pw k a else gpart a b k := rfl
          have HP := Lib.hid hp; clear hp e8
          go_wp2_with fail
          all_goals
            go_round
            case rel => exact ⟨k + 1, by omega, by go_num, by rw [HP.out]; first | (rw [if_pos (show b.getLsbD k = true by assumption), bits_xor_g]) | (rw [if_neg (by rw [show b.getLsbD k = false by assumption]; decide)])⟩
            case measure => simp [intOf]; omega
        · obtain rfl : k = 8 := by omega
          go_wp2_with fail
          go_ret
          exact ⟨rfl, below_alloc1 _ _⟩
def invR (a : G) : G × Int := if a = 0#8 then (0#8, 1) else (inv a, 0)
theorem inv_u (a : G) (w : World) :
    Calls Try.prog 16 #[.int .u8 (a.toNat : Int)] w fun e w' => e = .returned (.tuple #[.int .u8 ((invR a).1.toNat : Int), .int .i64 (invR a).2]) ∧ Below w.heap.size w w' := by
  by_cases h : a = 0#8
  · subst h
    go_enter Try.func16, Try.ntmps16
    go_wp2_with fail
    go_ret2
    exact ⟨rfl, Below.refl _ _⟩
  · have hr : invR a = (inv a, 0) := by simp [invR, h]
    have HR := Lib.hid hr; clear hr
    have hz : ((a.toNat : Int) == 0) = false := by
      rw [beq_eq_false_iff_ne]
      intro e
      exact h (BitVec.eq_of_toNat_eq (by simpa using e))
    clear h
    go_enter Try.func16, Try.ntmps16
    go_wp2_with fail
    clear hz
    go_loopw [0, 2, 6] (fun sa sb si wr => ∃ (k : Nat), k ≤ 7 ∧ si = .int .i64 k ∧ sa = .int .u8 ((invTo a k).1.toNat : Int) ∧ sb = .int .u8 ((invTo a k).2.toNat : Int) ∧ Below w.heap.size w wr) (fun _ _ si _ => 7 - (intOf si).toNat)
    case atStart => exact ⟨0, by omega, rfl, rfl, rfl, Below.refl _ _⟩
    case round =>
      obtain ⟨k, hk, rfl, rfl, rfl, hB⟩ := hrel
      by_cases hlt : k < 7
      · go_wp2_with fail
        refine (mul_u _ _ _).mono ?_
        rintro e w1 ⟨rfl, hb1⟩
        go_wp2_with fail
        refine (mul_u _ _ _).mono ?_
        rintro e w2 ⟨rfl, hb2⟩
        go_wp2_with fail
        go_roundw
        case rel => exact ⟨k + 1, by omega, by go_num, rfl, rfl, bthen (bthen hB hb1) hb2⟩
        case measure => simp [intOf]; omega
      · obtain rfl : k = 7 := by omega
        go_wp2_with fail
        go_ret2
        exact ⟨by rw [HR.out]; rfl, hB⟩
end Go.Proofs.Ytillfbohengpaaa
end
section
set_option linter.unusedVariables false
set_option linter.unusedSimpArgs false
namespace Go.Proofs.Ytillfbohengpaaa
open Go.RowKit Go.Shelf Gf
attribute [local go_sem] Oper.semAt_some
theorem powers_u (a : G) (w : World) : Calls Try.prog 39 #[.int .u8 (a.toNat : Int)] w fun e w' =>
    e = .returned (.func (.func 56) #[] #[.pointer (some ⟨w.heap.size, 0, none⟩)]) ∧ w' = w.alloc (.cells #[.int .u8 (a.toNat : Int)] 5) := by
  go_enter Try.func39, Try.ntmps39
  go_wp2_with fail
  go_ret
  exact ⟨rfl, rfl⟩
set_option maxHeartbeats 1000000 in
theorem powers_seq (a : G) (B N n : Nat) (w : World) :
    SeqJ Fence.wide n Try.prog 56 #[.pointer (some ⟨B, 0, none⟩)] (fun x : G => #[.int .u8 (x.toNat : Int)])
      (fun pre W => W.cell? ⟨B, 0, none⟩ = some (.int .u8 (a.toNat : Int)) ∧ pre.length ≤ N) (fun pre x => x = pws a pre.length) (fun _ => False) (fun _ => True) w := by
  intro l J Jx W hW hJ hBd hY h0
  refine callsIn_of_wp Try.func56 rfl trivial ?_ rfl
  simp only [Try.ntmps56, List.size_toArray, List.length_cons, List.length_nil, Nat.reduceAdd, Nat.reduceSub, Array.replicate_succ, Array.replicate_zero, List.push_toArray, List.append_toArray, List.nil_append, List.cons_append]
  have hro : Fence.wide.round = none := rfl
  gi_wp2
  gi_loopw [3] (fun p wr => ∃ pre : List G, p = .int .u8 ((pws a pre.length).toNat : Int) ∧ J pre wr)
    (fun p wr => leastOf (fun m => ∃ pre : List G, pre.length + m = N ∧ p = .int .u8 ((pws a pre.length).toNat : Int) ∧ J pre wr))
  case atStart => exact ⟨[], rfl, h0⟩
  case round =>
    obtain ⟨pre0, rfl, hJ0⟩ := hrel
    have hp0 : ∃ m, (∃ pre : List G, pre.length + m = N ∧ Value.int .u8 ((pws a pre0.length).toNat : Int) = .int .u8 ((pws a pre.length).toNat : Int) ∧ J pre wr) := ⟨N - pre0.length, pre0, by have := (hBd _ _ hJ0).2; omega, rfl, hJ0⟩
    obtain ⟨⟨pre, hlen, hpe, hJp⟩, _⟩ := leastOf_spec hp0
    have hq : pws a pre0.length = pws a pre.length := by
      simp only [Value.int.injEq, true_and] at hpe
      exact BitVec.eq_of_toNat_eq (by omega)
    have HQ := Lib.hid hq
    have HL := Lib.hid hlen
    clear hq hlen hpe hp0 hJ0
    obtain ⟨fn, tmps, assign, body, hy, hR⟩ := hY pre (pws a pre.length) wr hJp rfl
    rw [← HQ.out] at hy hR
    gi_wp2
    refine ⟨fun h => absurd h (by decide), hR.mono ?_⟩
    rintro e W3 (⟨rfl, hJ3⟩ | ⟨rfl, hJx3⟩)
    · obtain ⟨hc3, hl3⟩ := hBd _ _ hJ3
      gi_wp2
      refine ⟨trivial, fun h => absurd h (by decide), (callsIn_wide.2 (mul_u _ _ _)).mono ?_⟩
      rintro e W4 ⟨rfl, hb4⟩
      gi_wp2
      have hJ4 := hJ _ _ _ none hJ3 (grown_of_below hb4 none) (fun r e => by cases e)
      have hp1 : ∃ m, (∃ p : List G, p.length + m = N ∧ Value.int .u8 ((mul (pws a pre0.length) a).toNat : Int) = .int .u8 ((pws a p.length).toNat : Int) ∧ J p W4) :=
        ⟨N - (pre.length + 1), pre ++ [pws a pre0.length], by simp at hl3 ⊢; omega, by simp [HQ.out, pws], hJ4⟩
      go_roundw
      case rel => exact ⟨pre ++ [pws a pre0.length], by simp [HQ.out, pws], hJ4⟩
      case measure =>
        have hl := HL.out
        refine Nat.lt_of_le_of_lt ((leastOf_spec hp1).2 (N - (pre.length + 1)) ⟨pre ++ [pws a pre0.length], by simp at hl3 ⊢; omega, by simp [HQ.out, pws], hJ4⟩) ?_
        show _ < leastOf _
        simp at hl3
        omega
    · gi_wp2
      go_end0
      exact ⟨⟨_, rfl⟩, .inr ⟨_, trivial, hJx3⟩⟩
theorem eval_round (n : Nat) (w W W4 : World) (A : Option Addr) (c k : Nat) (x : G) (l : List G) (y : G) (hn : n = w.heap.size) (hB : Below n w W) (hb4 : Below W.heap.size W W4) (hlt : k < l.length) (hsz : n + 1 + 1 + 1 < W.heap.size)
    (hc0 : W.cell? ⟨n, 0, none⟩ = some (.slice A l.length c)) (k1 : W4.cell? ⟨n + 1, 0, none⟩ = some (gv y)) (k2 : W4.frozen? ⟨n + 1, 0, none⟩ = false)
    (k3 : W4.cell? ⟨n + 1 + 1, 0, none⟩ = some (.int .i64 (k : Int))) (k4 : W4.frozen? ⟨n + 1 + 1, 0, none⟩ = false) (hc3 : W.cell? ⟨n + 1 + 1 + 1, 0, none⟩ = some (gv x)) (z : G) (hz : evTo l x (k + 1) = z) (pre : List G) (hp : pre.length = k + 1) :
    KeepsOthers W ((W4.setCell ⟨n + 1, 0, none⟩ (gv z)).setCell ⟨n + 1 + 1, 0, none⟩ (.int .i64 ((k : Int) + 1))) ∧
    ((pre.length ≤ l.length ∧ ((W4.setCell ⟨n + 1, 0, none⟩ (gv z)).setCell ⟨n + 1 + 1, 0, none⟩ (.int .i64 ((k : Int) + 1))).cell? ⟨n, 0, none⟩ = some (.slice A l.length c) ∧
      ((W4.setCell ⟨n + 1, 0, none⟩ (gv z)).setCell ⟨n + 1 + 1, 0, none⟩ (.int .i64 ((k : Int) + 1))).cell? ⟨n + 1, 0, none⟩ = some (gv (evTo l x pre.length)) ∧
      ((W4.setCell ⟨n + 1, 0, none⟩ (gv z)).setCell ⟨n + 1 + 1, 0, none⟩ (.int .i64 ((k : Int) + 1))).frozen? ⟨n + 1, 0, none⟩ = false ∧
      ((W4.setCell ⟨n + 1, 0, none⟩ (gv z)).setCell ⟨n + 1 + 1, 0, none⟩ (.int .i64 ((k : Int) + 1))).cell? ⟨n + 1 + 1, 0, none⟩ = some (.int .i64 (pre.length : Int)) ∧
      ((W4.setCell ⟨n + 1, 0, none⟩ (gv z)).setCell ⟨n + 1 + 1, 0, none⟩ (.int .i64 ((k : Int) + 1))).frozen? ⟨n + 1 + 1, 0, none⟩ = false ∧
      ((W4.setCell ⟨n + 1, 0, none⟩ (gv z)).setCell ⟨n + 1 + 1, 0, none⟩ (.int .i64 ((k : Int) + 1))).cell? ⟨n + 1 + 1 + 1, 0, none⟩ = some (gv x)) ∧
      Below n w ((W4.setCell ⟨n + 1, 0, none⟩ (gv z)).setCell ⟨n + 1 + 1, 0, none⟩ (.int .i64 ((k : Int) + 1)))) := by
  subst hz
  have h0 : W4.cell? ⟨n, 0, none⟩ = some (.slice A l.length c) := (hb4.cell (p := ⟨n, 0, none⟩) (by show n < _; omega)).trans hc0
  have h3 : W4.cell? ⟨n + 1 + 1 + 1, 0, none⟩ = some (gv x) := (hb4.cell (p := ⟨n + 1 + 1 + 1, 0, none⟩) hsz).trans hc3
  refine ⟨((keepsOthers_below hb4).trans (KeepsOthers.setCell _ _ _)).trans (KeepsOthers.setCell _ _ _), ⟨by omega, ?_, ?_, ?_, ?_, ?_, ?_⟩, ?_⟩
  · rw [cell_set_ne _ _ _ _ (by dsimp only; omega), cell_set_ne _ _ _ _ (by dsimp only; omega)]; exact h0
  · rw [cell_set_ne _ _ _ _ (by dsimp only; omega), hp]; exact World.cell?_setCell_same' _ _ _ (by rw [k1]; rfl)
  · rw [World.frozen?_setCell, World.frozen?_setCell]; exact k2
  · rw [hp]; exact World.cell?_setCell_same' _ _ _ (by rw [cell_set_ne _ _ _ _ (by dsimp only; omega), k3]; rfl)
  · rw [World.frozen?_setCell, World.frozen?_setCell]; exact k4
  · rw [cell_set_ne _ _ _ _ (by dsimp only; omega), cell_set_ne _ _ _ _ (by dsimp only; omega)]; exact h3
  · exact ((hB.trans (hb4.mono (by omega))).setCell (p := ⟨n + 1, 0, none⟩) (by simp) _).setCell (p := ⟨n + 1 + 1, 0, none⟩) (by show n ≤ n + 1 + 1; omega) _
set_option maxRecDepth 100000 in
set_option maxHeartbeats 2000000 in
theorem eval_u (A : Option Addr) (n c : Nat) (l : List G) (x : G) (w : World) (hr : RL gv w A n l) :
    Calls Try.prog 22 #[.slice A n c, .int .u8 (x.toNat : Int)] w fun e w' => e = .returned (.int .u8 ((ev l x).toNat : Int)) ∧ Below w.heap.size w w' := by
  obtain rfl := hr.1
  refine (callsIn_wide (n := 5)).1 ?_
  refine callsIn_of_wp_marks Try.func22 rfl trivial ?_ rfl
  simp only [Try.ntmps22, List.size_toArray, List.length_cons, List.length_nil, Nat.reduceAdd, Nat.reduceSub, Array.replicate_succ, Array.replicate_zero, List.push_toArray, List.append_toArray, List.nil_append, List.cons_append]
  have hro : Fence.wide.round = none := rfl
  gi_wp2
  refine ⟨trivial, (callsIn_wide.2 (powers_u _ _)).mono ?_⟩
  rintro e w1 ⟨rfl, rfl⟩
  gi_wp2
  have h4 : ∀ y : World, y = (((w.alloc (.cells #[.slice A l.length c] 30)).alloc (.cells #[.int .u8 0] 5)).alloc (.cells #[.int .i64 0] 3)).alloc (.cells #[gv x] 5) →
      y.heap.size = w.heap.size + 4 ∧ Below w.heap.size w y ∧ y.cell? ⟨w.heap.size, 0, none⟩ = some (.slice A l.length c) ∧ y.cell? ⟨w.heap.size + 1, 0, none⟩ = some (.int .u8 0) ∧ y.frozen? ⟨w.heap.size + 1, 0, none⟩ = false ∧
      y.cell? ⟨w.heap.size + 2, 0, none⟩ = some (.int .i64 0) ∧ y.frozen? ⟨w.heap.size + 2, 0, none⟩ = false ∧ y.cell? ⟨w.heap.size + 3, 0, none⟩ = some (gv x) := by
    rintro y rfl
    refine ⟨by simp, balloc (balloc (balloc (below_alloc1 _ _) _) _) _, ?_, ?_, ?_, ?_, ?_, ?_⟩
    · rw [cell_old _ _ _ (by simp; omega), cell_old _ _ _ (by simp; omega), cell_old _ _ _ (by simp), cell_new _ _ _ _ _ _ rfl]; rfl
    · rw [cell_old _ _ _ (by simp), cell_old _ _ _ (by simp), cell_new _ _ _ _ _ _ (by simp)]; rfl
    · rw [frozen_old _ _ _ (by simp), frozen_old _ _ _ (by simp), frozen_new _ _ _ _ _ (by simp)]
    · rw [cell_old _ _ _ (by simp), cell_new _ _ _ _ _ _ (by simp)]; rfl
    · rw [frozen_old _ _ _ (by simp), frozen_new _ _ _ _ _ (by simp)]
    · rw [cell_new _ _ _ _ _ _ (by simp)]; rfl
  generalize hW0 : (((w.alloc (.cells #[.slice A l.length c] 30)).alloc (.cells #[.int .u8 0] 5)).alloc (.cells #[.int .i64 0] 3)).alloc (.cells #[gv x] 5) = W0
  obtain ⟨hsz, hB0, hc0, hc1, hf1, hc2, hf2, hc3⟩ := h4 W0 hW0.symm
  clear h4 hW0
  have hcl : l.length ≤ 9223372036854775807 := hr.2.1
  refine rangeFuncJ hro (by decide) (gf := 56) (lb := #[.pointer (some ⟨w.heap.size + 1 + 1 + 1, 0, none⟩)]) rfl trivial (enters_of Try.func56 (by kernel_rfl) rfl)
    (powers_seq x (w.heap.size + 1 + 1 + 1) l.length _ _) (fun _ => rfl)
    (fun pre W => (pre.length ≤ l.length ∧ W.cell? ⟨w.heap.size, 0, none⟩ = some (.slice A l.length c) ∧ W.cell? ⟨w.heap.size + 1, 0, none⟩ = some (gv (evTo l x pre.length)) ∧ W.frozen? ⟨w.heap.size + 1, 0, none⟩ = false ∧
      W.cell? ⟨w.heap.size + 1 + 1, 0, none⟩ = some (.int .i64 (pre.length : Int)) ∧ W.frozen? ⟨w.heap.size + 1 + 1, 0, none⟩ = false ∧ W.cell? ⟨w.heap.size + 1 + 1 + 1, 0, none⟩ = some (gv x)) ∧ Below w.heap.size w W)
    (fun co pre W => (co = .exit 0 ∧ W.cell? ⟨w.heap.size + 1, 0, none⟩ = some (gv (ev l x)) ∧ W.frozen? ⟨w.heap.size + 1, 0, none⟩ = false) ∧ Below w.heap.size w W)
    (OwnFrom.and (Own.from (fun s A B row hs hg hr => ⟨hs.1, cell_kept hs.2.1 hg hr, cell_kept hs.2.2.1 hg hr, (frozen_kept hs.2.2.1 hg hr).trans hs.2.2.2.1, cell_kept hs.2.2.2.2.1 hg hr, (frozen_kept hs.2.2.2.2.1 hg hr).trans hs.2.2.2.2.2.1, cell_kept hs.2.2.2.2.2.2 hg hr⟩) _) (ownFrom_below (Nat.le_refl _) (by omega)))
    (fun co => OwnFrom.and (Own.from (fun s A B row hs hg hr => ⟨hs.1, cell_kept hs.2.1 hg hr, (frozen_kept hs.2.1 hg hr).trans hs.2.2⟩) _) (ownFrom_below (Nat.le_refl _) (by omega)))
    (fun pre W h => ⟨h.1.2.2.2.2.2.2, h.1.1⟩)
    ⟨⟨by simp, hc0, hc1, hf1, hc2, hf2, hc3⟩, hB0⟩
    (fun p => { tmps := #[.slice A l.length c, gv x, .pointer (some ⟨w.heap.size, 0, none⟩), undef, .pointer (some ⟨w.heap.size + 1, 0, none⟩), .pointer (some ⟨w.heap.size + 1 + 1, 0, none⟩), gv p, gv x, .func (.func 56) #[] #[.pointer (some ⟨w.heap.size + 1 + 1 + 1, 0, none⟩)], gv p, undef, undef, undef, undef, undef, undef, undef, undef, undef, undef, undef, undef, undef, undef, undef], defers := [] })
    ?assign ?body ?done ?stop
  case assign =>
    intro l x W K hK
    gi_wp2
    exact hK
  case body =>
    rintro lo pre p W ⟨⟨hk, hc0, hc1, hf1, hc2, hf2, hc3⟩, hB⟩ rfl
    by_cases hlt : pre.length < l.length
    · obtain ⟨b, o, rfl, hb, hcb⟩ := hr.2.2 pre.length hlt
      have hcw := (hB.cell (p := ⟨b, o + pre.length, none⟩) hb).trans hcb
      have hct : ((pre.length : Int) == (l.length : Int)) = false := by rw [beq_eq_false_iff_ne]; omega
      gi_wp2
      have hmo : Try.prog.follows .mixedOrders = true := by kernel_rfl
      have h3 := World.block_lt_of_cell? W _ hc3
      have h1 : w.heap.size + 1 < W.heap.size := by dsimp only at h3; omega
      have h2 : w.heap.size + 1 + 1 < W.heap.size := by dsimp only at h3; omega
      gi_region_with_o (refine ⟨trivial, (CallsIn.inRound lo (callsIn_wide.2 (mul_u _ _ _))).mono ?_⟩; rintro e W4 ⟨rfl, hb4⟩; replace hb4 : Below W.heap.size W W4 := ⟨hb4.os, hb4.tape, hb4.output, hb4.size, hb4.block⟩; have k1 := (hb4.cell (p := ⟨w.heap.size + 1, 0, none⟩) h1).trans hc1; have k2 := (hb4.frozen (p := ⟨w.heap.size + 1, 0, none⟩) h1).trans hf1; have k3 := (hb4.cell (p := ⟨w.heap.size + 1 + 1, 0, none⟩) h2).trans hc2; have k4 := (hb4.frozen (p := ⟨w.heap.size + 1 + 1, 0, none⟩) h2).trans hf2)
      all_goals
        have hb5 : Below W.heap.size W ‹World› := by assumption
        gi_wp2
        rw [bits_xor_g]
        exact eval_round w.heap.size w W _ _ c pre.length x l _ rfl hB hb5 hlt h3 hc0 (by assumption) (by assumption) (by assumption) (by assumption) hc3 _ (evTo_succ l x _ hlt) _ (by simp)
    · have hl : pre.length = l.length := by omega
      have he : evTo l x pre.length = ev l x := by rw [hl, evTo_all]
      rw [he] at hc1
      have HE := Lib.hid he; clear he
      have ht : ((pre.length : Int) == (l.length : Int)) = true := by rw [hl]; simp
      clear hl
      gi_wp2
      exact ⟨KeepsOthers.refl _, ⟨rfl, hc1, hf1⟩, hB⟩
  case done =>
    intro D xs W _ h
    exact h.elim
  case stop =>
    rintro D co pre W hD _ ⟨⟨rfl, hc, hf⟩, hB⟩ hK
    gi_wp2
    have hK' := (KeepsOthers.setCell W ⟨w.heap.size + 1, 0, none⟩ (gv (ev l x))).same D _ hK rfl
    have hc5 := cell_kept (World.cell?_setCell_same' W ⟨w.heap.size + 1, 0, none⟩ (gv (ev l x)) (by rw [hc]; rfl)) (grownBy_putObj' _ D (.deferred none)) (fun r e => by cases e; exact ⟨_, hK', rfl⟩)
    refine ⟨by simp, .inl ⟨_, _, rfl, run_takeDeferred hK', ?_⟩⟩
    refine ⟨gv (ev l x), ?_, rfl, (hB.setCell (p := ⟨w.heap.size + 1, 0, none⟩) (by simp) _).trans (belowK_b (w := w) (Nat.le_refl _) _ D _ _ (by omega) hK' rfl rfl)⟩
    simp [results, Try.f22, go_sem, hc5]
end Go.Proofs.Ytillfbohengpaaa
end
section
set_option linter.unusedVariables false
set_option linter.unusedSimpArgs false
namespace Go.Proofs.Ytillfbohengpaaa
open Go.RowKit Gf Go.Sort
attribute [local go_sem] bits_gx
theorem Try.info5 : (Try.prog.info? 5).map (fun i => (i.zero, i.size, i.bytes)) = some (some (.int .u8 0), 1, 1) := by kernel_rfl
theorem slice_u8 : Try.prog.underlying 30 = some (.slice 5) := by kernel_rfl
theorem mixed : Try.prog.follows .mixedOrders = true := by kernel_rfl
theorem RL.atg {w : World} {A : Option Addr} {n : Nat} {l : List G} (h : RL gv w A n l) (j : Nat) (hj : j < n) : ∃ b o, A = some ⟨b, o, none⟩ ∧ b < w.heap.size ∧ w.cell? ⟨b, o + j, none⟩ = some (gv (g l j)) := by
  obtain ⟨b, o, h1, h2, h3⟩ := h.at j hj
  exact ⟨b, o, h1, h2, by rw [h3, g_eq l j (by rw [h.1]; exact hj)]⟩
theorem OwnL.cellg {E : TypeId} {w : World} {base n g0 cap : Nat} {l : List G} (h : OwnL gv E w base (.slice (some ⟨g0, 0, none⟩) n cap) n l) (j : Nat) (hj : j < n) : w.cell? ⟨g0, j, none⟩ = some (gv (g l j)) := by
  have := h.length
  rw [h.cell j (by omega), g_eq l j (by omega)]
theorem g_scale (c : G) (l : List G) (j : Nat) (h : j < l.length) : g (scale c l) j = mul c (g l j) := by
  rw [g_eq _ j (by simpa [scale] using h), g_eq l j h]; simp [scale]
theorem addTo_step (c T : G) (l z : List G) (j k : Nat) (hl : l.length = k) (hz : z.length = k) (hj : j < k) (hT : T = g (addTo l (scale c z) j) j) : (addTo l (scale c z) j).set j (gx T (mul c (g z j))) = addTo l (scale c z) (j + 1) := by
  have h := addTo_set l (scale c z) j (by omega) (by rw [addTo_length]; omega)
  rw [g_scale c z j (by omega), ← g_eq _ j (by rw [addTo_length]; omega), ← hT] at h
  exact h
theorem lin_mid (x T : G) (z : List G) (j : Nat) (hT : T = g (linTo z x 1#8 j) j) : (linTo z x 1#8 j).set j (gx T (mul (g z j) x)) = linMid z x 1#8 j := by
  subst hT; rfl
theorem lin_step (x V : G) (z : List G) (j : Nat) (hj : j < z.length) (hV : V = g (linMid z x 1#8 j) (j + 1)) : (linMid z x 1#8 j).set (j + 1) (gx V (g z j)) = linTo z x 1#8 (j + 1) := by
  have h := linTo_set z x 1#8 j hj
  rw [mul_one, ← hV] at h
  exact h
theorem invR_fst (a : G) : (invR a).1 = inv a := by
  unfold invR
  split
  · rename_i h; subst h; decide +kernel
  · rfl
theorem nt_next (xs ys : List G) (k : Nat) (z l l1 : List G) (X Y C : G) (HS : ntTo xs ys k = (z, l)) (hX : X = g xs k) (hY : Y = g ys k) (hl1 : l ++ [0#8] = l1) (hC : C = mul (gx Y (ev l X)) (invR (ev z X)).1) :
    ntTo xs ys (k + 1) = (lin z X 1#8, add l1 (scale C z)) := by
  subst hl1 hC hX hY
  rw [ntTo, HS, invR_fst]
  rfl
theorem coefs_bad (A B : Option Addr) (c d n m : Nat) (xs ys : List G) (w : World) (hx : RL gv w A n xs) (hy : RL gv w B m ys) (hn : ¬ (xs.Nodup ∧ n = m)) :
    Calls Try.prog 20 #[.slice A n c, .slice B m d] w fun e w' => e = .returned (.tuple #[.slice none 0 0, .int .i64 1]) ∧ Below w.heap.size w w' := by
  have hd : decide (xs.Nodup ∧ n = m) = false := decide_eq_false hn
  clear hn
  go_enter Try.func20, Try.ntmps20
  go_wp2_with fail
  refine (points_u _ _ _ _ _ _ _ _ hx).mono ?_
  rintro e w1 ⟨rfl, hb1⟩
  rw [hd]
  go_wp2_with fail
  go_ret2
  exact ⟨rfl, hb1⟩
set_option maxRecDepth 100000 in
set_option maxHeartbeats 2000000 in
theorem coefs_ok (A B : Option Addr) (c d n : Nat) (xs ys : List G) (w : World) (hx : RL gv w A n xs) (hy : RL gv w B n ys) (hn : xs.Nodup) (hb : n ≤ 1000) :
    Calls Try.prog 20 #[.slice A n c, .slice B n d] w fun e w' => ∃ v, e = .returned (.tuple #[v, .int .i64 0]) ∧ OwnL gv 5 w' w.heap.size v n (coefs xs ys) ∧ Below w.heap.size w w' := by
  have hlx := Lib.hid hx.1
  obtain ⟨i0, hi, hz0, hz1, hz2⟩ := info_parts Try.info5
  go_enter Try.func20, Try.ntmps20
  go_wp2_with fail
  refine (points_u _ _ _ _ _ _ _ _ hx).mono ?_
  rintro e w1 ⟨rfl, hb1⟩
  rw [show decide (xs.Nodup ∧ n = n) = true from decide_eq_true ⟨hn, rfl⟩]
  go_wp2_with fail
  generalize hW0 : w1.alloc _ = W0
  have hz : OwnL gv 5 W0 w.heap.size (.slice (some ⟨w1.heap.size, 0, none⟩) 1 1) 1 [1#8] := by
    rw [← hW0]; exact OwnL.lit w1 _ [1#8] 1 rfl rfl hb1.size (by decide)
  have hB0 : Below w.heap.size w W0 := by rw [← hW0]; exact balloc hb1 _
  clear hW0
  go_loopw [4, 6, 24] (fun lv zv si wr => ∃ (k : Nat) (z l : List G), k ≤ n ∧ si = .int .i64 k ∧ Hid (ntTo xs ys k = (z, l)) ∧ OwnL gv 5 wr w.heap.size lv k l ∧ OwnL gv 5 wr w.heap.size zv (k + 1) z ∧ (lv.ownBlock = none ∨ lv.ownBlock ≠ zv.ownBlock) ∧ Below w.heap.size w wr)
    (fun _ _ si _ => n - (intOf si).toNat)
  case atStart => exact ⟨0, [1#8], [], by omega, rfl, rfl, OwnL.nil _ _ _ _, hz, .inl rfl, hB0⟩
  case round =>
    obtain ⟨k, z, l, hk, rfl, HS, hol, hoz, hne, hB⟩ := hrel
    clear hz hB0
    by_cases hlt : k < n
    · obtain ⟨bx, ox, rfl, hbx, hcx⟩ := hx.atg k hlt
      obtain ⟨b_y, oy, rfl, hby, hcy⟩ := hy.atg k hlt
      obtain ⟨X, HX⟩ : ∃ X, Hid (X = g xs k) := ⟨_, rfl⟩
      obtain ⟨Y, HY⟩ : ∃ Y, Hid (Y = g ys k) := ⟨_, rfl⟩
      rw [← HX.out] at hcx
      rw [← HY.out] at hcy
      have hcx' := (hB.cell (p := ⟨bx, ox + k, none⟩) hbx).trans hcx
      obtain ⟨gz, capz, rfl, hgz, hgzlt⟩ := hoz.form (by omega)
      have hrz := hoz.rlg
      obtain ⟨Al, cl, rfl, hrl⟩ := hol.rl
      clear hcx
      go_wp2_with fail
      refine (eval_u _ _ _ _ _ _ hrz).mono ?_
      rintro e w2 ⟨rfl, hb2⟩
      go_wp2_with fail
      refine (inv_u _ _).mono ?_
      rintro e w3 ⟨rfl, hb3⟩
      go_wp2_with fail
      have hb23 : Below wr.heap.size wr w3 := bthen hb2 hb3
      have hB3 := bthen hB hb23
      have hcy' : ∀ (dr : Nat) (os : Array Obj), (grow (redrawn w3 dr) os).cell? ⟨b_y, oy + k, none⟩ = some (gv Y) := cell_regrown ((hB3.cell (p := ⟨b_y, oy + k, none⟩) hby).trans hcy)
      have hrl3 := hrl.below hb23
      refine wp_region_quiet_below mixed (by kernel_rfl) ?_
      repeat (quiet_step ((first | (go_at_call 22; exact Calls.regrown_of (eval_u _ _ _ _ _ _ (hrl3.below (below_regrown _ _ _)))) | (go_at_call 18; exact Calls.regrown_of (mul_u _ _ _)))))
      refine wpQuiet_nil ?_
      rintro _ ⟨p4, rfl⟩
      have hb4 := below_regrown w3 p4.d p4.os
      generalize grow (redrawn w3 p4.d) p4.os = w4 at *
      clear hcy' hrl3 hrz hrl hcx' hcy
      have hb24 := bthen hb23 hb4
      have hB4 := bthen hB hb24
      replace hol := hol.below hb24
      replace hoz := hoz.below hb24
      generalize Value.slice Al k cl = lv4 at *
      go_wp2_with (at_builtin; refine wpList_app rfl _ _ 30 rfl 0#8 rfl slice_u8 hi hz0 hz1 hz2 rfl rfl rfl hol rfl hB4.size (by omega) (by omega) ?_; intro v5 w5 hol5 hgr5 hob5)
      have hlow : Below w.heap.size w w5 := hB4.grown hgr5 hB4.size (fun k hk => (hol.lt k hk).1)
      have hgz4 : gz < w4.heap.size := (hoz.lt gz rfl).2
      have hzn : some gz ≠ lv4.ownBlock := by
        rcases hne with h | h
        · rw [h]; simp
        · exact fun e => h e.symm
      have hoz5 := hoz.kept hgr5 (.inr hzn)
      obtain ⟨g5, cap5, rfl, hg5, hg5lt⟩ := hol5.form (by omega)
      have h5z : g5 ≠ gz := by
        rintro rfl
        rcases hob5 with h | h
        · exact hzn h
        · have : g5 = w4.heap.size + 1 := Option.some.inj h
          omega
      obtain ⟨C, HC⟩ : ∃ C, Hid (C = mul (gx Y (ev l X)) (invR (ev z X)).1) := ⟨_, rfl⟩
      rw [← HC.out]
      have hll : (l ++ [0#8]).length = k + 1 := hol5.length
      have hlz : z.length = k + 1 := hoz5.length
      generalize hl1 : l ++ [0#8] = l1 at *
      have HL1 := Lib.hid hl1; clear hl1
      rw [← addTo_zero l1 (scale C z)] at hol5
      replace hll := Lib.hid hll
      replace hlz := Lib.hid hlz
      have Hne := Lib.hid h5z
      clear hgr5 hob5 hzn hoz hol hne h5z
      go_loopw [51] (fun si wr => ∃ (j : Nat), j ≤ k + 1 ∧ si = .int .i64 j ∧ OwnL gv 5 wr w.heap.size (.slice (some ⟨g5, 0, none⟩) (k + 1) cap5) (k + 1) (addTo l1 (scale C z) j) ∧ OwnL gv 5 wr w.heap.size (.slice (some ⟨gz, 0, none⟩) (k + 1) capz) (k + 1) z ∧ Below w.heap.size w wr)
        (fun si _ => k + 1 - (intOf si).toNat)
      case atStart => exact ⟨0, by omega, rfl, hol5, hoz5, hlow⟩
      case round =>
        obtain ⟨j, hj, rfl, hl6, hz6, hB6⟩ := hrel
        clear hol5 hoz5 hlow hgz4 hB4 hb24 hb4
        by_cases hjlt : j < k + 1
        · have hcz := hz6.cellg j hjlt
          have hcl := hl6.cellg j hjlt
          generalize hT : g (addTo l1 (scale C z) j) j = T at hcl
          have HT := Lib.hid hT.symm; clear hT
          go_wp2_with fail
          have hcl' : ∀ (dr : Nat) (os : Array Obj), (grow (redrawn wr dr) os).cell? ⟨g5, j, none⟩ = some (gv T) := cell_regrown hcl
          refine wp_region_qt 8 mixed (by kernel_rfl) (by decide) (by kernel_rfl) ?_
          repeat (quiet_step ((go_at_call 18; exact Calls.regrown_of (mul_u _ _ _))))
          refine wpQuiet_nil ?_
          intro w7 hb7
          have hg5w := (hl6.lt g5 rfl).2
          replace hl6 := hl6.below hb7
          replace hz6 := hz6.below hb7
          replace hB6 := bthen hB6 hb7
          have hcl7 : w7.cell? ⟨g5, j, none⟩ = some (gv T) := (hb7.cell (p := ⟨g5, j, none⟩) hg5w).trans hcl
          have hfr := hl6.free j
          clear hcl' hcl hcz
          go_wp2_with fail
          refine ⟨⟨j + 1, by omega, by go_num, ?_, ?_, ?_⟩, by simp [intOf]; omega⟩
          · rw [← addTo_step C T l1 z j (k + 1) hll.out hlz.out hjlt HT.out]
            exact hl6.set j _
          · exact hz6.setOther _ _ (fun e => Hne.out (Option.some.inj e).symm)
          · exact hB6.setCell hg5 _
        · obtain rfl : j = k + 1 := by omega
          rw [addTo_all l1 (scale C z) (by simp [scale, hll.out, hlz.out]) (k + 1) (by rw [hll.out]; omega)] at hl6
          go_wp2_with (at_make; refine wpList_mk (enc := gv) rfl _ _ 30 rfl 0#8 (k + 2) slice_u8 hi hz0 hz1 hz2 rfl _ _ _ _ rfl rfl (by omega) (by omega) (by omega) (by omega) hB6.size ?_; intro w7 hn7 hb7)
          have h5n : wr.heap.size ≠ g5 := Nat.ne_of_gt (hl6.lt g5 rfl).2
          have hzn : wr.heap.size ≠ gz := Nat.ne_of_gt (hz6.lt gz rfl).2
          have hBn := hB6.size
          replace hl6 := hl6.below hb7
          replace hz6 := hz6.below hb7
          replace hB6 := bthen hB6 hb7
          clear hb7
          generalize wr.heap.size = gn at *
          have HN5 := Lib.hid h5n
          have HNZ := Lib.hid hzn
          clear h5n hzn
          rw [show List.replicate (k + 2) 0#8 = linTo z X 1#8 0 by rw [linTo_zero, hlz.out]] at hn7
          go_loopw [72] (fun si wr => ∃ (j : Nat), j ≤ k + 1 ∧ si = .int .i64 j ∧ OwnL gv 5 wr w.heap.size (.slice (some ⟨gn, 0, none⟩) (k + 2) (k + 2)) (k + 2) (linTo z X 1#8 j) ∧ OwnL gv 5 wr w.heap.size (.slice (some ⟨g5, 0, none⟩) (k + 1) cap5) (k + 1) (add l1 (scale C z)) ∧ OwnL gv 5 wr w.heap.size (.slice (some ⟨gz, 0, none⟩) (k + 1) capz) (k + 1) z ∧ Below w.heap.size w wr)
            (fun si _ => k + 1 - (intOf si).toNat)
          case atStart => exact ⟨0, by omega, rfl, hn7, hl6, hz6, hB6⟩
          case round =>
            obtain ⟨j, hj, rfl, hn8, hl8, hz8, hB8⟩ := hrel
            clear hn7 hl6 hz6 hB6
            by_cases hjlt : j < k + 1
            · have hcz := hz8.cellg j hjlt
              have hcn := hn8.cellg j (by omega)
              generalize hT : g (linTo z X 1#8 j) j = T at hcn
              have HT := Lib.hid hT.symm; clear hT
              generalize hZ : g z j = Z at hcz
              have HZ := Lib.hid hZ.symm; clear hZ
              go_wp2_with fail
              have hcn' : ∀ (dr : Nat) (os : Array Obj), (grow (redrawn wr dr) os).cell? ⟨gn, j, none⟩ = some (gv T) := cell_regrown hcn
              have hj2 : j < k + 2 := by omega
              have hj3 : (j : Int) < (k : Int) + 2 := by omega
              have hj4 : (j : Int) + 1 < (k : Int) + 2 := by omega
              refine wp_region_qt 8 mixed (by kernel_rfl) (by decide) (by kernel_rfl) ?_
              repeat (quiet_step ((go_at_call 18; exact Calls.regrown_of (mul_u _ _ _))))
              refine wpQuiet_nil ?_
              intro w9 hb9
              have hgw := (hn8.lt gn rfl).2
              replace hn8 := hn8.below hb9
              replace hl8 := hl8.below hb9
              replace hz8 := hz8.below hb9
              replace hB8 := bthen hB8 hb9
              have hcn9 : w9.cell? ⟨gn, j, none⟩ = some (gv T) := (hb9.cell (p := ⟨gn, j, none⟩) hgw).trans hcn
              have hfr := hn8.free j
              have hfr1 := hn8.free (j + 1)
              have hmid := hn8.set j (gx T (mul Z X))
              rw [HZ.out, lin_mid X T z j HT.out, ← HZ.out] at hmid
              have hcm := hmid.cellg (j + 1) (by omega)
              generalize hV : g (linMid z X 1#8 j) (j + 1) = V at hcm
              have HV := Lib.hid hV.symm; clear hV
              have hfm := hmid.free (j + 1)
              clear hcn' hcn hcz
              go_wp2_with fail
              refine ⟨⟨j + 1, by omega, by go_num, ?_, ?_, ?_, ?_⟩, by simp [intOf]; omega⟩
              · rw [← lin_step X V z j (by have := hlz.out; omega) HV.out, ← HZ.out]
                exact hmid.set (j + 1) _
              · exact (hl8.setOther _ _ (fun e => HN5.out (Option.some.inj e).symm)).setOther _ _ (fun e => HN5.out (Option.some.inj e).symm)
              · exact (hz8.setOther _ _ (fun e => HNZ.out (Option.some.inj e).symm)).setOther _ _ (fun e => HNZ.out (Option.some.inj e).symm)
              · exact (hB8.setCell hBn _).setCell hBn _
            · obtain rfl : j = k + 1 := by omega
              have hnt := nt_next xs ys k z l l1 X Y C HS.out HX.out HY.out HL1.out HC.out
              have hla := linTo_all z X 1#8
              rw [hlz.out] at hla
              rw [hla] at hn8
              clear hla
              have HNT := Lib.hid hnt
              clear hnt
              go_wp2_with fail
              refine ⟨⟨k + 1, lin z X 1#8, add l1 (scale C z), by omega, by go_num, HNT.out, hl8, hn8, .inr (fun e => HN5.out (Option.some.inj e).symm), hB8⟩, by simp [intOf]; omega⟩
    · obtain rfl : k = n := by omega
      go_wp2_with fail
      go_ret2
      refine ⟨_, rfl, ?_, hB⟩
      have : coefs xs ys = l := by unfold coefs; rw [hlx.out, HS.out]
      rw [this]
      exact hol
end Go.Proofs.Ytillfbohengpaaa
end
section
set_option linter.unusedVariables false
set_option linter.unusedSimpArgs false
namespace Go.Proofs.Ytillfbohengpaaa
open Go.RowKit Gf Go.Sort
attribute [local go_sem] bits_gx
theorem through_ok (A B : Option Addr) (c d n : Nat) (xs ys : List G) (x : G) (w : World) (hx : RL gv w A n xs) (hy : RL gv w B n ys) (hn : xs.Nodup) (hb : n ≤ 1000) :
    Calls Try.prog 21 #[.slice A n c, .slice B n d, .int .u8 (x.toNat : Int)] w fun e w' => e = .returned (.tuple #[.int .u8 ((ev (coefs xs ys) x).toNat : Int), .int .i64 0]) ∧ Below w.heap.size w w' := by
  go_enter Try.func21, Try.ntmps21
  go_wp2_with fail
  refine (coefs_ok _ _ _ _ _ _ _ _ hx hy hn hb).mono ?_
  rintro e w1 ⟨v, rfl, hv, hb1⟩
  obtain ⟨Av, cv, rfl, hr⟩ := hv.rl
  go_wp2_with fail
  refine (eval_u _ _ _ _ _ _ hr).mono ?_
  rintro e w2 ⟨rfl, hb2⟩
  go_wp2_with fail
  go_ret2
  exact ⟨rfl, bthen hb1 hb2⟩
theorem RL.lit (w : World) (cs : Array Value) (l : List G) (n : Nat) (hcs : cs = (l.map gv).toArray) (hn : l.length = n) (hm : n ≤ 1000) : RL gv (w.alloc (.cells cs 5)) (some ⟨w.heap.size, 0, none⟩) n l :=
  (OwnL.lit (base := 0) w cs l n hcs hn (Nat.zero_le _) (by unfold maxLen; omega)).rlg
theorem und_str : Try.prog.underlying 9 = some .string := by kernel_rfl
theorem und_u8 : Try.prog.underlying 5 = some (.int .u8) := by kernel_rfl
end Go.Proofs.Ytillfbohengpaaa
end
section
set_option linter.unusedVariables false
set_option linter.unusedSimpArgs false
namespace Go.Proofs.Ytillfbohengpaaa
open Go.RowKit Gf
structure Sh where
  ep : Int
  ix : Int
  th : Int
  mn : Int
  da : List G
def SC (w : World) (b o : Nat) (s : Sh) : Prop :=
  w.cell? ⟨b, o, none⟩ = some (.int .i64 s.ep) ∧ w.cell? ⟨b, o + 1, none⟩ = some (.int .i64 s.ix) ∧ w.cell? ⟨b, o + 2, none⟩ = some (.int .i64 s.th) ∧ w.cell? ⟨b, o + 3, none⟩ = some (.int .i64 s.mn) ∧
    ∃ A n c, w.cell? ⟨b, o + 4, none⟩ = some (.slice A n c) ∧ RL gv w A n s.da
def RS (w : World) (A : Option Addr) (n : Nat) (l : List Sh) : Prop :=
  l.length = n ∧ n ≤ 9223372036854775807 ∧ ∀ j (h : j < l.length), ∃ b o, A = some ⟨b, o, none⟩ ∧ b < w.heap.size ∧ SC w b (o + j * 5) l[j]
theorem SC.below {w w' : World} {b o : Nat} {s : Sh} (hb : b < w.heap.size) (h : SC w b o s) (hw : Below w.heap.size w w') : SC w' b o s := by
  obtain ⟨h0, h1, h2, h3, A, n, c, h4, h5⟩ := h
  exact ⟨(hw.cell (p := ⟨b, o, none⟩) hb).trans h0, (hw.cell (p := ⟨b, o + 1, none⟩) hb).trans h1, (hw.cell (p := ⟨b, o + 2, none⟩) hb).trans h2, (hw.cell (p := ⟨b, o + 3, none⟩) hb).trans h3, A, n, c, (hw.cell (p := ⟨b, o + 4, none⟩) hb).trans h4, h5.below hw⟩
theorem RS.below {w w' : World} {A : Option Addr} {n : Nat} {l : List Sh} (h : RS w A n l) (hb : Below w.heap.size w w') : RS w' A n l :=
  ⟨h.1, h.2.1, fun j hj => by
    obtain ⟨b, o, e, hlt, hc⟩ := h.2.2 j hj
    exact ⟨b, o, e, Nat.lt_of_lt_of_le hlt hb.size, hc.below hlt hb⟩⟩
theorem RS.nil (w : World) (A : Option Addr) : RS w A 0 [] := ⟨rfl, by omega, fun j h => by simp at h⟩
theorem RS.at {w : World} {A : Option Addr} {n : Nat} {l : List Sh} (h : RS w A n l) (j : Nat) (hj : j < n) :
    ∃ b o, A = some ⟨b, o, none⟩ ∧ b < w.heap.size ∧ SC w b (o + j * 5) (l[j]'(by rw [h.1]; exact hj)) := h.2.2 j (by rw [h.1]; exact hj)
def headB (a : Sh) : Bool := decide (1 ≤ a.th) && decide (a.th ≤ a.mn) && decide (a.mn ≤ 8) && decide (a.da.length ≤ 64)
def okAt (a : Sh) (last : Int) (s : Sh) : Bool := decide (s.th = a.th) && decide (s.mn = a.mn) && decide (s.da.length = a.da.length) && decide (last < s.ix) && decide (s.ix ≤ s.mn)
def chainB (a : Sh) : Int → List Sh → Bool
  | _, [] => true
  | last, s :: r => okAt a last s && chainB a s.ix r
def alikeB : List Sh → Bool
  | [] => false
  | a :: r => headB a && chainB a 0 (a :: r)
end Go.Proofs.Ytillfbohengpaaa
end
section
set_option linter.unusedVariables false
set_option linter.unusedSimpArgs false
namespace Go.Proofs.Ytillfbohengpaaa
open Go.RowKit Gf Go.Sort
theorem share_new (w : World) (v0 v1 v2 v3 v4 : Value) (T : TypeId) : let W := w.alloc (.cells #[v0, v1, v2, v3, v4] T)
    W.cell? ⟨w.heap.size, 0, none⟩ = some v0 ∧ W.cell? ⟨w.heap.size, 1, none⟩ = some v1 ∧ W.cell? ⟨w.heap.size, 2, none⟩ = some v2 ∧ W.cell? ⟨w.heap.size, 3, none⟩ = some v3 ∧ W.cell? ⟨w.heap.size, 4, none⟩ = some v4 ∧ Below w.heap.size w W ∧ w.heap.size < W.heap.size := by
  refine ⟨?_, ?_, ?_, ?_, ?_, below_alloc1 _ _, by simp⟩ <;> (rw [cell_new _ _ _ _ _ _ rfl]; rfl)
theorem chain_not (a s : Sh) (last : Int) (l rest : List Sh) (h : chainB a 0 l = chainB a last (s :: rest)) (hk : okAt a last s = false) : chainB a 0 l = false := by
  rw [h]; simp [chainB, hk]
theorem chain_step (a s : Sh) (last : Int) (l rest : List Sh) (h : chainB a 0 l = chainB a last (s :: rest)) (hk : okAt a last s = true) : chainB a 0 l = chainB a s.ix rest := by
  rw [h]; simp [chainB, hk]
set_option maxRecDepth 100000 in
set_option maxHeartbeats 2000000 in
theorem alike_nil (A : Option Addr) (c : Nat) (w : World) :
    Calls Try.prog 46 #[.slice A 0 c] w fun e w' => e = .returned (.bool false) ∧ Below w.heap.size w w' := by
  go_enter Try.func46, Try.ntmps46
  go_wp2_with fail
  go_quiet (fail)
  go_wp2_with fail
  go_ret
  exact ⟨rfl, bdrewN (Below.refl _ _) _⟩
set_option maxRecDepth 100000 in
set_option maxHeartbeats 2000000 in
theorem alike_u (A : Option Addr) (c n : Nat) (a : Sh) (r : List Sh) (w : World) (h : RS w A n (a :: r)) :
    Calls Try.prog 46 #[.slice A n c] w fun e w' => e = .returned (.bool (headB a && chainB a 0 (a :: r))) ∧ Below w.heap.size w w' := by
  have hn0 : 0 < n := by have := h.1; simp at this; omega
  obtain ⟨b, o, rfl, hb, hc⟩ := h.at 0 hn0
  simp only [List.getElem_cons_zero, Nat.zero_mul, Nat.add_zero] at hc
  obtain ⟨c0, c1, c2, c3, Ad, nd, cd, c4, hda⟩ := hc
  have hz : ((n : Int) == 0) = false := by rw [beq_eq_false_iff_ne]; omega
  have hni : (0 : Int) < (n : Int) := by omega
  by_cases h1 : 1 ≤ a.th
  case neg =>
    have hh : headB a = false := by simp [headB, h1]
    rw [hh]
    have d1 : a.th < 1 := by omega
    go_enter Try.func46, Try.ntmps46
    go_wp2_with fail
    go_quiet (fail)
    go_wp2_with fail
    go_ret
    exact ⟨rfl, bdrewN (Below.refl _ _) _⟩
  have d1 : decide (a.th < 1) = false := decide_eq_false (by omega)
  by_cases h2 : a.th ≤ a.mn
  case neg =>
    have hh : headB a = false := by simp [headB, h2]
    rw [hh]
    have d2 : a.mn < a.th := by omega
    go_enter Try.func46, Try.ntmps46
    go_wp2_with fail
    go_quiet (fail)
    go_wp2_with fail
    go_ret
    exact ⟨rfl, bdrewN (Below.refl _ _) _⟩
  have d2 : decide (a.mn < a.th) = false := decide_eq_false (by omega)
  by_cases h3 : a.mn ≤ 8
  case neg =>
    have hh : headB a = false := by simp [headB, h3]
    rw [hh]
    have d3 : 8 < a.mn := by omega
    go_enter Try.func46, Try.ntmps46
    go_wp2_with fail
    go_quiet (fail)
    go_wp2_with fail
    go_ret
    exact ⟨rfl, bdrewN (Below.refl _ _) _⟩
  have d3 : decide (8 < a.mn) = false := decide_eq_false (by omega)
  by_cases h4 : nd ≤ 64
  case neg =>
    have hh : headB a = false := by simp [headB, hda.1, h4]
    rw [hh]
    have d4 : (64 : Int) < (nd : Int) := by omega
    go_enter Try.func46, Try.ntmps46
    go_wp2_with fail
    go_quiet (fail)
    go_wp2_with fail
    go_ret
    exact ⟨rfl, bdrewN (Below.refl _ _) _⟩
  have d4 : decide ((64 : Int) < (nd : Int)) = false := decide_eq_false (by omega)
  have hh : headB a = true := by simp [headB, h1, h2, h3, hda.1, h4]
  rw [hh, Bool.true_and]
  go_enter Try.func46, Try.ntmps46
  go_wp2_with fail
  go_quiet (fail)
  go_wp2_with fail
  clear d1 d2 d3 d4 h1 h2 h3 h4 hh
  go_loopw [3, 5, 44] (fun sl _ si wr => ∃ (k : Nat) (last : Int), k ≤ n ∧ si = .int .i64 k ∧ sl = .int .i64 last ∧ Below w.heap.size w wr ∧ Hid (chainB a 0 (a :: r) = chainB a last ((a :: r).drop k))) (fun _ _ si _ => n - (intOf si).toNat)
  case atStart => exact ⟨0, 0, by omega, rfl, rfl, bdrewN (Below.refl _ _) _, rfl⟩
  case round =>
    obtain ⟨k, last, hk, rfl, rfl, hB, HC⟩ := hrel
    by_cases hlt : k < n
    · obtain ⟨b', o', he, hb', hc'⟩ := (h.below hB).at k hlt
      obtain ⟨rfl, rfl⟩ : b' = b ∧ o' = o := by injection he with he; injection he with e1 e2; exact ⟨e1.symm, e2.symm⟩
      clear he
      generalize hs : (a :: r)[k]'(by rw [h.1]; exact hlt) = s at hc'
      have HS := Lib.hid hs; clear hs
      obtain ⟨e0, e1, e2, e3, As, ns, cs, e4, hds⟩ := hc'
      have hlt2 : (k : Int) < (n : Int) := by omega
      have hk63 : (k : Int) + 1 ≤ 9223372036854775807 := by have := h.2.1; omega
      have hw : wrap64 ((k : Int) + 1) = (k : Int) + 1 := by unfold wrap64; omega
      go_wp2_with fail
      obtain ⟨f0, f1, f2, f3, f4, hbn, hlt1⟩ := share_new wr (.int .i64 s.ep) (.int .i64 s.ix) (.int .i64 s.th) (.int .i64 s.mn) (.slice As ns cs) 52
      have hbr := Nat.lt_of_lt_of_le hb hB.size
      have hBb := bthen hB hbn
      generalize hW1 : wr.alloc _ = W1 at *
      clear hW1
      have hB1 : Below w.heap.size w W1 := hBb
      generalize wr.heap.size = gn at *
      replace c2 := (hB1.cell (p := ⟨b', o' + 2, none⟩) hb).trans c2
      replace c3 := (hB1.cell (p := ⟨b', o' + 3, none⟩) hb).trans c3
      replace c4 := (hB1.cell (p := ⟨b', o' + 4, none⟩) hb).trans c4
      have hcons : (a :: r).drop k = s :: (a :: r).drop (k + 1) := by rw [← HS.out]; exact List.drop_eq_getElem_cons (by rw [h.1]; exact hlt)
      replace HC : Hid (chainB a 0 (a :: r) = chainB a last (s :: (a :: r).drop (k + 1))) := by rw [← hcons]; exact HC
      clear hcons e0 e1 e2 e3 e4 c0 c1 hbn hBb hB
      by_cases q1 : s.th = a.th
      case neg =>
        have hok : okAt a last s = false := by simp [okAt, q1]
        have d : (s.th == a.th) = false := by simp [q1]
        have d' : (s.th != a.th) = true := by simp [q1]
        clear q1
        go_wp2_with fail
        go_quiet (fail)
        go_wp2_with fail
        go_ret
        exact ⟨by rw [chain_not _ _ _ _ _ HC.out hok]; rfl, bdrewN hB1 _⟩
      rw [q1] at f2
      by_cases q2 : s.mn = a.mn
      case neg =>
        have hok : okAt a last s = false := by simp [okAt, q2]
        have d : (s.mn == a.mn) = false := by simp [q2]
        have d' : (s.mn != a.mn) = true := by simp [q2]
        clear q2
        go_wp2_with fail
        go_quiet (fail)
        go_wp2_with fail
        go_ret
        exact ⟨by rw [chain_not _ _ _ _ _ HC.out hok]; rfl, bdrewN hB1 _⟩
      rw [q2] at f3
      by_cases q3 : ns = nd
      case neg =>
        have hok : okAt a last s = false := by simp [okAt, hds.1, hda.1, q3]
        have d : ((ns : Int) == (nd : Int)) = false := by rw [beq_eq_false_iff_ne]; omega
        have d' : ((ns : Int) != (nd : Int)) = true := by rw [bne, d]; rfl
        clear q3
        go_wp2_with fail
        go_quiet (fail)
        go_wp2_with fail
        go_ret
        exact ⟨by rw [chain_not _ _ _ _ _ HC.out hok]; rfl, bdrewN hB1 _⟩
      subst q3
      by_cases q4 : last < s.ix
      case neg =>
        have hok : okAt a last s = false := by simp [okAt, q4]
        have d : s.ix ≤ last := by omega
        go_wp2_with fail
        go_quiet (fail)
        go_wp2_with fail
        go_ret
        exact ⟨by rw [chain_not _ _ _ _ _ HC.out hok]; rfl, bdrewN hB1 _⟩
      have d4 : decide (s.ix ≤ last) = false := decide_eq_false (by omega)
      by_cases q5 : s.ix ≤ a.mn
      case neg =>
        have hok : okAt a last s = false := by simp [okAt, q2, q5]
        have d : a.mn < s.ix := by omega
        go_wp2_with fail
        go_quiet (fail)
        go_wp2_with fail
        go_ret
        exact ⟨by rw [chain_not _ _ _ _ _ HC.out hok]; rfl, bdrewN hB1 _⟩
      have d5 : decide (a.mn < s.ix) = false := decide_eq_false (by omega)
      have hok : okAt a last s = true := by simp [okAt, q1, q2, q4, q5, hds.1, hda.1]
      go_wp2_with fail
      go_quiet (fail)
      go_wp2_with fail
      exact ⟨⟨k + 1, s.ix, by omega, by go_num, rfl, bdrewN hB1 _, chain_step _ _ _ _ _ HC.out hok⟩, by simp [intOf]; omega⟩
    · obtain rfl : k = n := by omega
      go_wp2_with fail
      go_ret
      refine ⟨?_, hB⟩
      rw [HC.out, List.drop_eq_nil_of_le (by rw [h.1]; exact Nat.le_refl _)]
      rfl
end Go.Proofs.Ytillfbohengpaaa
end
section
set_option linter.unusedVariables false
set_option linter.unusedSimpArgs false
namespace Go.Proofs.Ytillfbohengpaaa
open Go.RowKit Gf Go.Sort
theorem alike_any {A : Option Addr} {c n : Nat} {l : List Sh} {w : World} (h : RS w A n l) :
    Calls Try.prog 46 #[.slice A n c] w fun e w' => e = .returned (.bool (alikeB l)) ∧ Below w.heap.size w w' := by
  cases l with
  | nil =>
    obtain rfl : n = 0 := by have := h.1; simpa using this.symm
    exact alike_nil A c w
  | cons a r => exact alike_u A c n a r w h
def epOk (a s : Sh) : Bool := decide (s.ep = a.ep) && decide (0 ≤ s.ep) && decide (s.ep ≤ 1048576)
def epsB (a : Sh) (l : List Sh) : Bool := l.all (epOk a)
def epR (b : Bool) : Int := if b then 0 else 81
def checkR : List Sh → Int
  | [] => 80
  | a :: r => if alikeB (a :: r) then epR (epsB a (a :: r)) else 80
theorem checkR_not (l : List Sh) (h : alikeB l = false) : checkR l = 80 := by
  cases l with
  | nil => rfl
  | cons a r => simp [checkR, h]
theorem all_not (a s : Sh) (l rest : List Sh) (h : epsB a l = epsB a (s :: rest)) (hk : epOk a s = false) : epsB a l = false := by
  rw [h]; simp [epsB, hk]
theorem all_step (a s : Sh) (l rest : List Sh) (h : epsB a l = epsB a (s :: rest)) (hk : epOk a s = true) : epsB a l = epsB a rest := by
  rw [h]; simp [epsB, hk]
set_option maxRecDepth 100000 in
set_option maxHeartbeats 2000000 in
theorem check_u {A : Option Addr} {c n : Nat} {l : List Sh} {w : World} (h : RS w A n l) :
    Calls Try.prog 27 #[.slice A n c] w fun e w' => e = .returned (.int .i64 (checkR l)) ∧ Below w.heap.size w w' := by
  cases hal : alikeB l with
  | false =>
    rw [checkR_not l hal]
    go_enter Try.func27, Try.ntmps27
    go_wp2_with fail
    refine (alike_any h).mono ?_
    rintro e w1 ⟨rfl, hb1⟩
    rw [hal]
    go_wp2_with fail
    go_ret
    exact ⟨rfl, hb1⟩
  | true =>
    cases l with
    | nil => cases hal
    | cons a r =>
      have hn0 : 0 < n := by have := h.1; simp at this; omega
      have hni : (0 : Int) < (n : Int) := by omega
      obtain ⟨b, o, rfl, hb, hc⟩ := h.at 0 hn0
      simp only [List.getElem_cons_zero, Nat.zero_mul, Nat.add_zero] at hc
      have c0 := hc.1
      clear hc
      have hR : checkR (a :: r) = epR (epsB a (a :: r)) := by simp [checkR, hal]
      rw [hR]
      clear hR
      go_enter Try.func27, Try.ntmps27
      go_wp2_with fail
      refine (alike_any h).mono ?_
      rintro e w1 ⟨rfl, hb1⟩
      rw [hal]
      clear hal
      go_wp2_with fail
      go_loopw [4, 10] (fun _ si wr => ∃ (k : Nat), k ≤ n ∧ si = .int .i64 k ∧ Below w.heap.size w wr ∧ Hid (epsB a (a :: r) = epsB a ((a :: r).drop k))) (fun _ si _ => n - (intOf si).toNat)
      case atStart => exact ⟨0, by omega, rfl, hb1, rfl⟩
      case round =>
        obtain ⟨k, hk, rfl, hB, HC⟩ := hrel
        clear hb1
        by_cases hlt : k < n
        · obtain ⟨b', o', he, hb', hc'⟩ := (h.below hB).at k hlt
          obtain ⟨rfl, rfl⟩ : b' = b ∧ o' = o := by injection he with he; injection he with e1 e2; exact ⟨e1.symm, e2.symm⟩
          clear he
          generalize hs : (a :: r)[k]'(by rw [h.1]; exact hlt) = s at hc'
          have HS := Lib.hid hs; clear hs
          obtain ⟨e0, e1, e2, e3, As, ns, cs, e4, hds⟩ := hc'
          have hlt2 : (k : Int) < (n : Int) := by omega
          have hk63 : (k : Int) + 1 ≤ 9223372036854775807 := by have := h.2.1; omega
          have hw : wrap64 ((k : Int) + 1) = (k : Int) + 1 := by unfold wrap64; omega
          go_wp2_with fail
          obtain ⟨f0, f1, f2, f3, f4, hbn, hlt1⟩ := share_new wr (.int .i64 s.ep) (.int .i64 s.ix) (.int .i64 s.th) (.int .i64 s.mn) (.slice As ns cs) 52
          have hB1 := bthen hB hbn
          generalize hW1 : wr.alloc _ = W1 at *
          clear hW1
          generalize wr.heap.size = gn at *
          have c1 := (hB1.cell (p := ⟨b', o', none⟩) hb).trans c0
          have hcons : (a :: r).drop k = s :: (a :: r).drop (k + 1) := by rw [← HS.out]; exact List.drop_eq_getElem_cons (by rw [h.1]; exact hlt)
          replace HC : Hid (epsB a (a :: r) = epsB a (s :: (a :: r).drop (k + 1))) := by rw [← hcons]; exact HC
          clear hcons e0 e1 e2 e3 e4 hbn hB
          by_cases q1 : s.ep = a.ep
          case neg =>
            have hok : epOk a s = false := by simp [epOk, q1]
            have d : (s.ep == a.ep) = false := by simp [q1]
            have d' : (s.ep != a.ep) = true := by simp [q1]
            clear q1
            go_wp2_with fail
            go_quiet (fail)
            go_wp2_with fail
            go_ret
            exact ⟨by rw [all_not _ _ _ _ HC.out hok]; rfl, bdrewN hB1 _⟩
          rw [q1] at f0
          by_cases q2 : 0 ≤ a.ep
          case neg =>
            have hok : epOk a s = false := by simp [epOk, q1, q2]
            have d : a.ep < 0 := by omega
            go_wp2_with fail
            go_quiet (fail)
            go_wp2_with fail
            go_ret
            exact ⟨by rw [all_not _ _ _ _ HC.out hok]; rfl, bdrewN hB1 _⟩
          have d2 : decide (a.ep < 0) = false := decide_eq_false (by omega)
          by_cases q3 : a.ep ≤ 1048576
          case neg =>
            have hok : epOk a s = false := by simp [epOk, q1, q3]
            have d : 1048576 < a.ep := by omega
            go_wp2_with fail
            go_quiet (fail)
            go_wp2_with fail
            go_ret
            exact ⟨by rw [all_not _ _ _ _ HC.out hok]; rfl, bdrewN hB1 _⟩
          have d3 : decide (1048576 < a.ep) = false := decide_eq_false (by omega)
          have hok : epOk a s = true := by simp [epOk, q1, q2, q3]
          go_wp2_with fail
          go_quiet (fail)
          go_wp2_with fail
          exact ⟨⟨k + 1, by omega, by go_num, bdrewN hB1 _, all_step _ _ _ _ HC.out hok⟩, by simp [intOf]; omega⟩
        · obtain rfl : k = n := by omega
          go_wp2_with fail
          go_ret
          refine ⟨?_, hB⟩
          rw [HC.out, List.drop_eq_nil_of_le (by rw [h.1]; exact Nat.le_refl _)]
          rfl
end Go.Proofs.Ytillfbohengpaaa
end
section
set_option linter.unusedVariables false
set_option linter.unusedSimpArgs false
namespace Go.Proofs.Ytillfbohengpaaa
open Go.RowKit Gf Go.Proofs.YtillfbohengpaaaW.PrintWords PA
def tI (x : G) : Int := (x.toNat : Int)
def gI (x : Int) : G := BitVec.ofInt 8 x
theorem gI_tI (x : G) : gI (tI x) = x := by simp [gI, tI]
theorem tI_gI (x : Int) (h0 : 0 ≤ x) (h1 : x < 256) : tI (gI x) = x := by
  obtain ⟨n, rfl⟩ := Int.eq_ofNat_of_zero_le h0
  simp only [tI, gI, BitVec.ofInt_natCast, BitVec.toNat_ofNat]
  omega
theorem tI_range (x : G) : 0 ≤ tI x ∧ tI x < 256 := by have := x.isLt; unfold tI; omega
theorem tI_inj {x y : G} (h : tI x = tI y) : x = y := by rw [← gI_tI x, h, gI_tI]
def okB (x : Int) : Bool := decide (0 ≤ x) && decide (x < 256)
theorem okB_tI (x : G) : okB (tI x) = true := by have := tI_range x; simp [okB, this.1, this.2]
def isB (l : List Int) : Bool := l.all okB
theorem isB_tI (l : List G) : isB (l.map tI) = true := by simp [isB, okB_tI]
theorem gI_map (l : List G) : (l.map tI).map gI = l := by simp [List.map_map, Function.comp_def, gI_tI]
theorem of_isB {l : List Int} (h : isB l = true) : (l.map gI).map tI = l := by
  rw [List.map_map]
  refine (List.map_congr_left fun x hx => ?_).trans (List.map_id l)
  have := List.all_eq_true.1 h x hx
  simp only [okB, Bool.and_eq_true, decide_eq_true_eq] at this
  exact tI_gI x this.1 this.2
theorem ex_isB {l : List Int} (h : isB l = true) : ∃ m : List G, l = m.map tI := ⟨_, (of_isB h).symm⟩
theorem spot_of {w : World} {ad : Addr} {v : Value} (h : w.cell? ad = some v) : ad = ⟨ad.block, ad.off, none⟩ := by
  obtain ⟨b, o, s⟩ := ad
  cases s with
  | none => rfl
  | some k =>
    unfold World.cell? at h
    cases hb : w.heap[b]? with
    | none => rw [hb] at h; cases h
    | some ob => rw [hb] at h; cases ob <;> simp at h
theorem C_of_rl {w : World} {A : Option Addr} {n : Nat} {l : List G} (h : RL gv w A n l) : Kd.C (Kd.int .u8) w A n (l.map tI) := by
  refine ⟨by rw [List.length_map]; exact h.1, h.2.1, fun hn => ?_⟩
  obtain ⟨b, o, rfl, hb, _⟩ := h.at 0 hn
  refine ⟨_, rfl, fun j p hj => ⟨[.int .u8 p], rfl, rfl, fun i u hu => ?_⟩⟩
  rw [List.getElem?_map, Option.map_eq_some_iff] at hj
  obtain ⟨x, hx, rfl⟩ := hj
  have hl := (List.getElem?_eq_some_iff.1 hx).1
  obtain ⟨b', o', e, _, hc⟩ := h.2.2 j hl
  injection e with e; injection e with e1 e2
  subst e1 e2
  cases i with
  | zero =>
    have hu' : Value.int .u8 (tI x) = u := by simpa using hu
    subst hu'
    show w.cell? (Addr.add ⟨b, o, none⟩ (j * 1 + 0)) = _
    rw [add_at, Nat.mul_one, Nat.add_zero, hc, (List.getElem?_eq_some_iff.1 hx).2]; rfl
  | succ i => simp at hu
theorem rl_of_C {w : World} {A : Option Addr} {n : Nat} {l : List G} (h : Kd.C (Kd.int .u8) w A n (l.map tI)) : RL gv w A n l := by
  have hl : l.length = n := by have := h.1; rwa [List.length_map] at this
  refine ⟨hl, h.2.1, fun j hj => ?_⟩
  obtain ⟨ad, rfl, hc⟩ := h.2.2 (by omega)
  have hl0 : 0 < l.length := by omega
  obtain ⟨c0, _, rfl, h0⟩ := hc 0 (tI (l[0]'hl0)) (by simp [hl0])
  have hs := h0 0 _ rfl
  rw [Nat.zero_mul, Nat.add_zero] at hs
  have hsp := spot_of (show w.cell? (ad.add 0) = _ from hs)
  simp only [Addr.add, if_true] at hsp hs
  obtain ⟨c1, _, rfl, h1⟩ := hc j (tI l[j]) (by simp [hj])
  have h2 : w.cell? (ad.add (j * 1 + 0)) = _ := h1 0 _ rfl
  rw [Nat.mul_one, Nat.add_zero, hsp, add_at] at h2
  refine ⟨ad.block, ad.off, by rw [← hsp], World.block_lt_of_cell? w ad hs, h2⟩
theorem R_of_own {E : TypeId} {w : World} {base n : Nat} {v : Value} {l : List G} {ok : Nat → Prop} (h : OwnL gv E w base v n l) (hok : ∀ k, v.ownBlock = some k → ok k) : Kd.R (Kd.int .u8) E w base ok v (l.map tI) := by
  refine ⟨hok, l.map gv, ?_, ?_⟩
  · show w.ownsRow base E 1 v (l.map tI).length (l.map gv)
    rw [List.length_map, h.length]; exact h
  · refine ⟨by simp [Kd.int, Kd.scalar], fun j p hj => ?_⟩
    rw [List.getElem?_map, Option.map_eq_some_iff] at hj
    obtain ⟨x, hx, rfl⟩ := hj
    show ((l.map gv).drop (j * 1)).take 1 = [.int .u8 (tI x)]
    rw [Nat.mul_one]
    obtain ⟨hl, hx⟩ := List.getElem?_eq_some_iff.1 hx
    rw [List.drop_eq_getElem_cons (by simpa using hl)]
    simp [hx]; rfl
theorem own_of_R {E : TypeId} {w : World} {base : Nat} {v : Value} {l : List G} {ok : Nat → Prop} (h : Kd.R (Kd.int .u8) E w base ok v (l.map tI)) : OwnL gv E w base v l.length l := by
  obtain ⟨_, inner, ho, hr⟩ := h
  rw [List.length_map] at ho
  suffices hi : inner = l.map gv by rw [hi] at ho; exact ho
  have hlen : inner.length = l.length := by have := hr.1; simpa [Kd.int, Kd.scalar] using this
  apply List.ext_getElem (by simpa using hlen)
  intro j h1 h2
  have hj : j < l.length := by omega
  have := hr.2 j (tI l[j]) (by simp [hj])
  have h3 : (inner.drop (j * 1)).take 1 = [.int .u8 (tI l[j])] := this
  rw [Nat.mul_one, List.drop_eq_getElem_cons h1] at h3
  simp only [List.take_succ_cons, List.take_zero, List.cons.injEq, and_true] at h3
  rw [h3]; simp; rfl
def sI (s : Sh) : S52 := ⟨s.ep, s.ix, s.th, s.mn, s.da.map tI⟩
def shG (s : S52) : Sh := ⟨s.f0, s.f1, s.f2, s.f3, s.f4.map gI⟩
def okS (l : List S52) : Bool := l.all fun s => isB s.f4
theorem shG_sI (s : Sh) : shG (sI s) = s := by cases s; simp [shG, sI, List.map_map, Function.comp_def, gI_tI]
theorem okS_sI (l : List Sh) : okS (l.map sI) = true := by simp [okS, sI, isB_tI]
theorem shG_map (l : List Sh) : (l.map sI).map shG = l := by simp [List.map_map, Function.comp_def, shG_sI]
theorem of_okS {l : List S52} (h : okS l = true) : (l.map shG).map sI = l := by
  rw [List.map_map]
  refine (List.map_congr_left fun x hx => ?_).trans (List.map_id l)
  have := List.all_eq_true.1 h x hx
  cases x
  simp only [Function.comp, shG, sI, id]
  rw [of_isB this]
theorem ex_okS {l : List S52} (h : okS l = true) : ∃ m : List Sh, l = m.map sI := ⟨_, (of_okS h).symm⟩
theorem rs_of_C {w : World} {A : Option Addr} {n : Nat} {l : List Sh} (h : Kd.C k52 w A n (l.map sI)) : RS w A n l := by
  have hl : l.length = n := by have := h.1; rwa [List.length_map] at this
  refine ⟨hl, h.2.1, fun j hj => ?_⟩
  have key : ∀ i (hi : i < l.length), ∃ ad A4 c4, A = some ad ∧ w.cell? (ad.add (i * 5)) = some (.int .i64 l[i].ep) ∧ w.cell? ⟨(ad.add (i * 5)).block, (ad.add (i * 5)).off + 1, none⟩ = some (.int .i64 l[i].ix) ∧ w.cell? ⟨(ad.add (i * 5)).block, (ad.add (i * 5)).off + 2, none⟩ = some (.int .i64 l[i].th) ∧ w.cell? ⟨(ad.add (i * 5)).block, (ad.add (i * 5)).off + 3, none⟩ = some (.int .i64 l[i].mn) ∧ w.cell? ⟨(ad.add (i * 5)).block, (ad.add (i * 5)).off + 4, none⟩ = some (.slice A4 (l[i].da.map tI).length c4) ∧ (l[i].da.map tI).length ≤ c4 ∧ (Kd.int .u8).C w A4 (l[i].da.map tI).length (l[i].da.map tI) := by
    intro i hi
    have := at_T52 h (i : Int) (by omega) (by omega)
    have e : rd_T52 (l.map sI) (i : Int) = sI l[i] := by simp [rd_T52, hi]
    rw [e, Int.toNat_natCast] at this
    exact this
  obtain ⟨ad, _, _, rfl, h0, _⟩ := key 0 (by omega)
  rw [Nat.zero_mul] at h0
  have hsp := spot_of h0
  simp only [Addr.add, if_true] at hsp h0
  obtain ⟨ad', A4, c4, e, g0, g1, g2, g3, g4, g5, g6⟩ := key j hj
  injection e with e; subst e
  rw [hsp, add_at] at g0 g1 g2 g3 g4
  refine ⟨ad.block, ad.off, by rw [← hsp], World.block_lt_of_cell? w ad h0, g0, g1, g2, g3, A4, _, c4, g4, ?_⟩
  have := rl_of_C g6
  exact this
end Go.Proofs.Ytillfbohengpaaa
end
section
set_option linter.unusedVariables false
set_option linter.unusedSimpArgs false
namespace Go.Proofs.Ytillfbohengpaaa
open Go.RowKit Gf Go.Sort
section
variable {α : Type} {enc : α → Value} {E : TypeId} {base : Nat}
theorem wpList_mk0 {P : Program} {ops : Array Oper} {rest : List Oper} {o : Oper} {a : Act} {Q : Exit → Act → World → Prop} {w : World} (hg : o.guard = none) (lo co : Operand) (t : TypeId) (hop : o.op = Op.makeSlice t lo co)
    {i : TypeInfo} {z : Value} (n : Nat) (ht : P.underlying t = some (.slice E)) (hi : P.info? E = some i) (hz : i.zero = some z) (hsize : i.size = 1)
    (kl kc : IntKind) (C : Int) (hl : a.eval lo = .int kl 0) (hc : a.eval co = .int kc C) (hC : C = (n : Int)) (hlen : i.bytes * n ≤ 281474976710656) (hlen2 : n ≤ 9223372036854775807) (hb : base ≤ w.heap.size)
    (hK : ∀ w', OwnL enc E w' base (.slice (some ⟨w.heap.size, 0, none⟩) 0 n) 0 [] → Below w.heap.size w w' → wpList P ops Q rest (a.put o.dst (.slice (some ⟨w.heap.size, 0, none⟩) 0 n)) w') :
    wpList P ops Q (o :: rest) a w := by
  refine wpList_make_own w hg lo co t hop base E i z 1 ht hi hz hsize kl kc C n hl hc hC hlen (by simp only [maxLen]; omega) hb ?_
  intro w' h2 h3
  exact hK w' h2 (grown_below h3)
end
theorem range_snoc {β : Type} (g : Nat → β) (k : Nat) : (List.range k).map g ++ [g k] = (List.range (k + 1)).map g := by simp [List.range_succ]
set_option maxRecDepth 100000 in
set_option maxHeartbeats 2000000 in
theorem columns_u8 (fc : FuncId) (caps : Array Value) (n : Nat) (g : Nat → G) (w : World) (hn : n ≤ 1000) (hcf : ∀ args W, Sem.run Try.prog (callFunc fc args) W = .ok (.enter fc args) W)
    (hf : ∀ (at_ : Nat) (W : World), at_ < n → Below w.heap.size w W → Calls Try.prog fc (#[.int .i64 (at_ : Int)] ++ caps) W fun e w' => e = .returned (gv (g at_)) ∧ Below W.heap.size W w') :
    Calls Try.prog 43 #[.int .i64 (n : Int), .func (.func fc) #[] caps] w fun e w' => ∃ v, e = .returned v ∧ OwnL gv 5 w' w.heap.size v n ((List.range n).map g) ∧ Below w.heap.size w w' := by
  obtain ⟨i0, hi, hz0, hz1, hz2⟩ := info_parts Try.info5
  go_enter Try.func43, Try.ntmps43
  go_wp2_with (at_make; refine wpList_mk0 (enc := gv) (base := w.heap.size) rfl _ _ 30 rfl n slice_u8 hi hz0 hz1 _ _ _ rfl rfl rfl (by rw [hz2]; omega) (by omega) (Nat.le_refl _) ?_; intro w1 hol hb1)
  go_loopw [5, 6, 10] (fun lv _ si wr => ∃ (k : Nat), k ≤ n ∧ si = .int .i64 k ∧ OwnL gv 5 wr w.heap.size lv k ((List.range k).map g) ∧ Below w.heap.size w wr) (fun _ _ si _ => n - (intOf si).toNat)
  case atStart => exact ⟨0, by omega, rfl, hol, hb1⟩
  case round =>
    obtain ⟨k, hk, rfl, hl, hB⟩ := hrel
    clear hol hb1
    by_cases hlt : k < n
    · go_wp2_with fail
      refine (hf k _ hlt hB).mono ?_
      rintro e w2 ⟨rfl, hb2⟩
      have hB2 := bthen hB hb2
      replace hl := hl.below hb2
      go_wp2_with (at_builtin; refine wpList_app rfl _ _ 30 rfl (g k) rfl slice_u8 hi hz0 hz1 hz2 rfl rfl rfl hl rfl hB2.size (by omega) (by omega) ?_; intro v5 w5 hol5 hgr5 hob5)
      have hlow : Below w.heap.size w w5 := hB2.grown hgr5 hB2.size (fun k hk => (hl.lt k hk).1)
      go_wp2_with fail
      refine ⟨⟨k + 1, by omega, by go_num, by rw [← range_snoc]; exact hol5, hlow⟩, by simp [intOf]; omega⟩
    · obtain rfl : k = n := by omega
      go_wp2_with fail
      go_ret
      exact ⟨_, rfl, hl, hB⟩
def VRs (w : World) (base : Nat) (lv : Value) (vs : List Value) (n : Nat) (g : Nat → List G) : Prop :=
  vs.length = n ∧ ∀ j (h : j < vs.length), ∃ m, OwnL gv 5 w base vs[j] m (g j) ∧ (vs[j].ownBlock = none ∨ vs[j].ownBlock ≠ lv.ownBlock)
theorem VRs.below {w w' : World} {base : Nat} {lv : Value} {vs : List Value} {n : Nat} {g : Nat → List G} (h : VRs w base lv vs n g) (hb : Below w.heap.size w w') : VRs w' base lv vs n g :=
  ⟨h.1, fun j hj => by obtain ⟨m, ho, hn⟩ := h.2 j hj; exact ⟨m, ho.below hb, hn⟩⟩
theorem VRs.snoc {w w' : World} {base n m : Nat} {lv lv' v : Value} {vs : List Value} {g : Nat → List G} (h : VRs w base lv vs n g) (hv : OwnL gv 5 w base v m (g n)) (hne : v.ownBlock = none ∨ v.ownBlock ≠ lv.ownBlock)
    (hg : w.grownBy w' lv.ownBlock) (hob : lv'.ownBlock = lv.ownBlock ∨ lv'.ownBlock = some (w.heap.size + 1)) : VRs w' base lv' (vs ++ [v]) (n + 1) g := by
  have key : ∀ (u : Value) (l : List G) (m : Nat), OwnL gv 5 w base u m l → (u.ownBlock = none ∨ u.ownBlock ≠ lv.ownBlock) → OwnL gv 5 w' base u m l ∧ (u.ownBlock = none ∨ u.ownBlock ≠ lv'.ownBlock) := by
    intro u l m hu hn
    refine ⟨hu.kept hg hn, ?_⟩
    rcases hob with e | e
    · rw [e]; exact hn
    · cases hb : u.ownBlock with
      | none => exact .inl rfl
      | some k =>
        refine .inr ?_
        rw [e]
        intro e2
        have := (hu.lt k hb).2
        have : k = w.heap.size + 1 := Option.some.inj e2
        omega
  refine ⟨by simp [h.1], fun j hj => ?_⟩
  by_cases hl : j < vs.length
  · obtain ⟨m, ho, hn⟩ := h.2 j hl
    rw [List.getElem_append_left hl]
    exact ⟨m, key _ _ _ ho hn⟩
  · have hjn : j = n := by simp at hj; have := h.1; omega
    subst hjn
    rw [List.getElem_append_right (by omega)]
    simp only [h.1, Nat.sub_self, List.getElem_cons_zero]
    exact ⟨m, key _ _ _ hv hne⟩
theorem Try.info30 : (Try.prog.info? 30).map (fun i => (i.zero, i.size, i.bytes)) = some (some (.slice none 0 0), 1, 24) := by kernel_rfl
theorem slice_sl : Try.prog.underlying 50 = some (.slice 30) := by kernel_rfl
set_option maxRecDepth 100000 in
set_option maxHeartbeats 2000000 in
theorem columns_sl (fc : FuncId) (caps : Array Value) (n : Nat) (g : Nat → List G) (w : World) (hn : n ≤ 1000) (hcf : ∀ args W, Sem.run Try.prog (callFunc fc args) W = .ok (.enter fc args) W)
    (hf : ∀ (at_ : Nat) (W : World), at_ < n → Below w.heap.size w W → Calls Try.prog fc (#[.int .i64 (at_ : Int)] ++ caps) W fun e w' => ∃ v m, e = .returned v ∧ OwnL gv 5 w' W.heap.size v m (g at_) ∧ Below W.heap.size W w') :
    Calls Try.prog 40 #[.int .i64 (n : Int), .func (.func fc) #[] caps] w fun e w' => ∃ v vs, e = .returned v ∧ OwnL id 30 w' w.heap.size v n vs ∧ VRs w' w.heap.size v vs n g ∧ Below w.heap.size w w' := by
  obtain ⟨i0, hi, hz0, hz1, hz2⟩ := info_parts Try.info30
  go_enter Try.func40, Try.ntmps40
  go_wp2_with (at_make; refine wpList_mk0 (enc := id) (base := w.heap.size) rfl _ _ 50 rfl n slice_sl hi hz0 hz1 _ _ _ rfl rfl rfl (by rw [hz2]; omega) (by omega) (Nat.le_refl _) ?_; intro w1 hol hb1)
  go_loopw [5, 6, 10] (fun lv _ si wr => ∃ (k : Nat) (vs : List Value), k ≤ n ∧ si = .int .i64 k ∧ OwnL id 30 wr w.heap.size lv k vs ∧ VRs wr w.heap.size lv vs k g ∧ Below w.heap.size w wr) (fun _ _ si _ => n - (intOf si).toNat)
  case atStart => exact ⟨0, [], by omega, rfl, hol, ⟨rfl, fun j h => by simp at h⟩, hb1⟩
  case round =>
    obtain ⟨k, vs, hk, rfl, hl, hvs, hB⟩ := hrel
    clear hol hb1
    by_cases hlt : k < n
    · go_wp2_with fail
      refine (hf k _ hlt hB).mono ?_
      rintro e w2 ⟨v, m, rfl, hv, hb2⟩
      have hB2 := bthen hB hb2
      have hne : ∀ x : Value, (∀ q, x.ownBlock = some q → q < ‹World›.heap.size) → True := fun _ _ => trivial
      have hvne : v.ownBlock = none ∨ v.ownBlock ≠ u5.ownBlock := by
        cases hb : v.ownBlock with
        | none => exact .inl rfl
        | some q =>
          refine .inr fun e2 => ?_
          have h1 := (hv.lt q hb).1
          have h2 := (hl.lt q e2.symm).2
          omega
      replace hl := hl.below hb2
      replace hvs := hvs.below hb2
      have hv' := hv.rebase hB.size
      clear hne
      obtain ⟨A, c, rfl, hmc⟩ := hv.any
      clear hv
      have HV := Lib.hid hv'
      have HN := Lib.hid hvne
      clear hv' hvne
      go_wp2_with (at_builtin; refine wpList_app (enc := id) rfl _ _ 50 rfl (Value.slice A m c) rfl slice_sl hi hz0 hz1 hz2 rfl rfl rfl hl rfl hB2.size (by omega) (by omega) ?_; intro v5 w5 hol5 hgr5 hob5)
      have hlow : Below w.heap.size w w5 := hB2.grown hgr5 hB2.size (fun k hk => (hl.lt k hk).1)
      have hvs5 := hvs.snoc HV.out HN.out hgr5 hob5
      have HVS := Lib.hid hvs5
      clear hvs5 hob5 hvs
      go_wp2_with fail
      refine ⟨⟨k + 1, _, by omega, by go_num, hol5, HVS.out, hlow⟩, by simp [intOf]; omega⟩
    · obtain rfl : k = n := by omega
      go_wp2_with fail
      go_ret
      exact ⟨_, _, rfl, hl, hvs, hB⟩
end Go.Proofs.Ytillfbohengpaaa
end
section
set_option linter.unusedVariables false
set_option linter.unusedSimpArgs false
namespace Go.Proofs.Ytillfbohengpaaa
open Go.RowKit Gf Go.Sort
theorem RL.cut {α : Type} {enc : α → Value} {w : World} {b o n : Nat} {l : List α} (h : RL enc w (some ⟨b, o, none⟩) n l) (p m : Nat) (hp : p + m ≤ n) : RL enc w (some ⟨b, o + p, none⟩) m ((l.drop p).take m) := by
  refine ⟨by simp; have := h.1; omega, by have := h.2.1; omega, fun j hj => ?_⟩
  have hj' : j < m := by simp at hj; omega
  obtain ⟨b', o', e, hb, hc⟩ := h.at (p + j) (by omega)
  injection e with e; injection e with e1 e2
  subst e1 e2
  refine ⟨b, o + p, rfl, hb, ?_⟩
  rw [show o + p + j = o + (p + j) by omega, hc]
  simp
set_option maxRecDepth 100000 in
set_option maxHeartbeats 2000000 in
theorem piece_u (A : Option Addr) (n c : Nat) (l : List G) (at_ m : Nat) (w : World) (h0 : RL gv w A n l) (hc : n ≤ c) (hb : (at_ + 1) * m ≤ n) (hn : n ≤ 100000) (hat : at_ ≤ 100000) (hm : m ≤ 100000) :
    Calls Try.prog 42 #[.slice A n c, .int .i64 (at_ : Int), .int .i64 (m : Int)] w fun e w' => ∃ B, e = .returned (.slice B m m) ∧ RL gv w B m ((l.drop (at_ * m)).take m) ∧ w = w' := by
  obtain ⟨p, hp⟩ : ∃ p, p = at_ * m := ⟨_, rfl⟩
  have hq : (at_ + 1) * m = p + m := by rw [hp, Nat.add_mul, Nat.one_mul]
  rw [hq] at hb
  have e1 : wrap64 ((at_ : Int) * (m : Int)) = (p : Int) := by
    have : (at_ : Int) * (m : Int) = (p : Int) := by rw [hp]; simp
    rw [this]; unfold wrap64; omega
  have e2 : wrap64 (((at_ : Int) + 1) * (m : Int)) = (p : Int) + (m : Int) := by
    have : ((at_ : Int) + 1) * (m : Int) = (p : Int) + (m : Int) := by
      have := congrArg (fun x : Nat => (x : Int)) hq
      simpa using this
    rw [this]; unfold wrap64; omega
  have hbc : p + m ≤ c := by omega
  rw [← hp]
  have HQ := Lib.hid hq
  have HP := Lib.hid hp
  clear hq hp
  go_enter Try.func42, Try.ntmps42
  go_wp2_with fail
  · obtain rfl : m = 0 := by omega
    go_ret
    exact ⟨A, by simp, by simpa using RL.nil gv w A, rfl⟩
  · go_ret
    refine ⟨_, rfl, ?_, rfl⟩
    obtain ⟨b, o, rfl, hb', _⟩ := h0.at 0 (by omega)
    show RL gv w (some (Addr.add ⟨b, o, none⟩ p)) m _
    rw [Go.Proofs.YtillfbohengpaaaW.PrintWords.add_at]
    exact h0.cut p m hb
set_option maxRecDepth 100000 in
set_option maxHeartbeats 2000000 in
theorem split2_u (p q : Nat) (A : Option Addr) (n c : Nat) (vs : List Value) (g : Nat → List G) (base : Nat) (i at_ : Nat) (w : World) (hp : w.cell? ⟨p, 0, none⟩ = some (.slice A n c)) (hq : w.cell? ⟨q, 0, none⟩ = some (.int .i64 (i : Int)))
    (ho : OwnL id 30 w base (.slice A n c) n vs) (hv : VRs w base (.slice A n c) vs n g) (hat : at_ < n) (hi : i < 256) :
    Calls Try.prog 44 #[.int .i64 (at_ : Int), .pointer (some ⟨p, 0, none⟩), .pointer (some ⟨q, 0, none⟩)] w fun e w' => e = .returned (gv (ev (g at_) (BitVec.ofNat 8 i))) ∧ Below w.heap.size w w' := by
  obtain ⟨g0, cap, e, hb, hlt⟩ := ho.form (by omega)
  injection e with e1 e2 e3
  subst e1 e3
  obtain ⟨m, hm, _⟩ := hv.2 at_ (by rw [hv.1]; exact hat)
  have hcl := ho.cell at_ (by rw [hv.1]; exact hat)
  obtain ⟨B, cb, hB, hr⟩ := hm.rl
  rw [hB] at hcl
  have hic : ((i : Int) % 256) = (((BitVec.ofNat 8 i : G)).toNat : Int) := by simp
  have hati : (at_ : Int) < (n : Int) := by omega
  simp only [id] at hcl
  go_enter Try.func44, Try.ntmps44
  go_wp2_with fail
  have hp' : ∀ (dr : Nat) (os : Array Obj), (grow (redrawn w dr) os).cell? ⟨p, 0, none⟩ = _ := cell_regrown hp
  have hq' : ∀ (dr : Nat) (os : Array Obj), (grow (redrawn w dr) os).cell? ⟨q, 0, none⟩ = _ := cell_regrown hq
  have hcl' : ∀ (dr : Nat) (os : Array Obj), (grow (redrawn w dr) os).cell? ⟨g0, at_, none⟩ = _ := cell_regrown hcl
  refine wp_region_quiet_below mixed (by kernel_rfl) ?_
  repeat (quiet_step ((go_at_call 22; exact Calls.regrown_of (eval_u _ _ _ _ (BitVec.ofNat 8 i) _ (hr.below (below_regrown _ _ _))))))
  refine wpQuiet_nil ?_
  rintro _ ⟨p4, rfl⟩
  have hb4 := below_regrown w p4.d p4.os
  generalize grow (redrawn w p4.d) p4.os = w4 at *
  go_wp2_with fail
  go_ret
  exact ⟨rfl, hb4⟩
end Go.Proofs.Ytillfbohengpaaa
end
section
set_option linter.unusedVariables false
set_option linter.unusedSimpArgs false
namespace Go.Proofs.Ytillfbohengpaaa
open Go.RowKit Gf Go.Sort Go.Proofs.YtillfbohengpaaaW.PrintWords Go.Proofs.YtillfbohengpaaaW.PrintLast PA
def RetOwn (e : Ending) (w' : World) (base : Nat) (l : List G) : Prop := ∃ v k, e = .returned v ∧ OwnL gv 5 w' base v k l
set_option maxRecDepth 100000 in
set_option maxHeartbeats 2000000 in
theorem split1_u (p1 p2 p3 : Nat) (A B : Option Addr) (n c n2 c2 : Nat) (l r : List G) (at_ m : Nat) (w : World) (h1 : w.cell? ⟨p1, 0, none⟩ = some (.slice A n c)) (h2 : w.cell? ⟨p2, 0, none⟩ = some (.slice B n2 c2)) (h3 : w.cell? ⟨p3, 0, none⟩ = some (.int .i64 ((m : Int) + 1)))
    (hl : RL gv w A n l) (hr : RL gv w B n2 r) (hc2 : n2 ≤ c2) (hat : at_ < n) (hn : n ≤ 1000) (hm : m ≤ 1000) (hb : (at_ + 1) * m ≤ n2) (hn2 : n2 ≤ 100000) :
    Calls Try.prog 41 #[.int .i64 (at_ : Int), .pointer (some ⟨p1, 0, none⟩), .pointer (some ⟨p2, 0, none⟩), .pointer (some ⟨p3, 0, none⟩)] w fun e w' => RetOwn e w' w.heap.size (g l at_ :: (r.drop (at_ * m)).take m) ∧ Below w.heap.size w w' := by
  obtain ⟨b, o, rfl, hbl, hcl⟩ := hl.atg at_ hat
  have hati : (at_ : Int) < (n : Int) := by omega
  have HL := Lib.hid hl
  have HR := Lib.hid hr
  clear hl hr
  have hS : ∀ w', Below w.heap.size w w' → w'.cell? ⟨p1, 0, none⟩ = some (.slice (some ⟨b, o, none⟩) n c) ∧ w'.cell? ⟨p2, 0, none⟩ = some (.slice B n2 c2) ∧ w'.cell? ⟨p3, 0, none⟩ = some (.int .i64 ((m : Int) + 1)) ∧ w'.cell? ⟨b, o + at_, none⟩ = some (gv (g l at_)) := fun w' hb => ⟨pw_cell_below hb h1, pw_cell_below hb h2, pw_cell_below hb h3, pw_cell_below hb hcl⟩
  have HS := Lib.hid hS
  clear hS
  go_enter Try.func41, Try.ntmps41
  go_wp2_with fail
  refine start_ (n := 12) (S := fun w' => w'.cell? ⟨p1, 0, none⟩ = some (.slice (some ⟨b, o, none⟩) n c) ∧ w'.cell? ⟨p2, 0, none⟩ = some (.slice B n2 c2) ∧ w'.cell? ⟨p3, 0, none⟩ = some (.int .i64 ((m : Int) + 1)) ∧ w'.cell? ⟨b, o + at_, none⟩ = some (gv (g l at_))) (ds := []) #[false, false, false, false, false, false, false, false, false, false, false, false] (by kernel_rfl) rfl rfl ⟨h1, h2, h3, hcl⟩ (fun hHeld => ?_)
  refine pure_ (i := 1) (N := some 7) (v := ?_) (a' := ?_) #[false, true, false, false, false, false, false, false, false, false, false, false] rfl rfl (by kernel_rfl) (fun _ _ _ h => h) (Or.inl ⟨by rfl, ?_⟩) ?_ ?_
  rotate_left
  · intro w'
    go_simp
    with_reducible rfl
  rotate_left
  · simp only [Act.put, List.setIfInBounds_toArray, List.set_cons_zero, List.set_cons_succ]
    rfl
  refine pure_ (i := 6) (N := some 12) (v := ?_) (a' := ?_) #[false, true, false, false, false, false, true, false, false, false, false, false] rfl rfl (by kernel_rfl) (fun _ _ _ h => h) (Or.inl ⟨by rfl, ?_⟩) ?_ ?_
  rotate_left
  · intro w'
    go_simp
    with_reducible rfl
  rotate_left
  · simp only [Act.put, List.setIfInBounds_toArray, List.set_cons_zero, List.set_cons_succ]
    rfl
  refine take_ (i := 0) (N := some 6) (v := ?_) (a' := ?_) #[true, true, false, false, false, false, true, false, false, false, false, false] rfl rfl (by kernel_rfl) (fun _ _ _ h => h) (Or.inl ⟨by rfl, ?_⟩) hHeld ?_ ?_
  rotate_left
  · intro w' hs
    obtain ⟨s1, s2, s3, s4⟩ := hs; go_simp
    with_reducible rfl
  rotate_left
  · simp only [Act.put, List.setIfInBounds_toArray, List.set_cons_zero, List.set_cons_succ]
    rfl
  refine pure_ (i := 2) (N := some 8) (v := ?_) (a' := ?_) #[true, true, true, false, false, false, true, false, false, false, false, false] rfl rfl (by kernel_rfl) (fun _ _ _ h => h) (Or.inl ⟨by rfl, ?_⟩) ?_ ?_
  rotate_left
  · intro w'
    go_simp
    with_reducible rfl
  rotate_left
  · simp only [Act.put, List.setIfInBounds_toArray, List.set_cons_zero, List.set_cons_succ]
    rfl
  refine take_ (i := 3) (N := some 9) (v := ?_) (a' := ?_) #[true, true, true, true, false, false, true, false, false, false, false, false] rfl rfl (by kernel_rfl) (fun _ _ _ h => h) (Or.inl ⟨by rfl, ?_⟩) hHeld ?_ ?_
  rotate_left
  · intro w' hs
    obtain ⟨s1, s2, s3, s4⟩ := hs; go_simp
    with_reducible rfl
  rotate_left
  · simp only [Act.put, List.setIfInBounds_toArray, List.set_cons_zero, List.set_cons_succ]
    rfl
  refine take_ (i := 5) (N := some 11) (v := ?_) (a' := ?_) #[true, true, true, true, false, true, true, false, false, false, false, false] rfl rfl (by kernel_rfl) (fun _ _ _ h => h) (Or.inl ⟨by rfl, ?_⟩) hHeld ?_ ?_
  rotate_left
  · intro w' hs
    obtain ⟨s1, s2, s3, s4⟩ := hs; go_simp
    with_reducible rfl
  rotate_left
  · simp only [Act.put, List.setIfInBounds_toArray, List.set_cons_zero, List.set_cons_succ]
    rfl
  refine take_ (i := 7) (N := some 13) (v := ?_) (a' := ?_) #[true, true, true, true, false, true, true, true, false, false, false, false] rfl rfl (by kernel_rfl) (fun _ _ _ h => h) (Or.inl ⟨by rfl, ?_⟩) hHeld ?_ ?_
  rotate_left
  · intro w' hs
    obtain ⟨s1, s2, s3, s4⟩ := hs; go_simp
    with_reducible rfl
  rotate_left
  · simp only [Act.put, List.setIfInBounds_toArray, List.set_cons_zero, List.set_cons_succ]
    rfl
  refine pure_ (i := 8) (N := some 14) (v := ?_) (a' := ?_) #[true, true, true, true, false, true, true, true, true, false, false, false] rfl rfl (by kernel_rfl) (fun _ _ _ h => h) (Or.inl ⟨by rfl, ?_⟩) ?_ ?_
  rotate_left
  · intro w'
    go_simp
    with_reducible rfl
  rotate_left
  · simp only [Act.put, List.setIfInBounds_toArray, List.set_cons_zero, List.set_cons_succ]
    rfl
  generalize hwd : w.drew = wd at *
  have hBd : Below w.heap.size w wd := by rw [← hwd]; exact below_drew (Below.refl _ _)
  clear hwd
  have hrd : RL gv wd B n2 r := HR.out.below hBd
  have hmm : ((m : Int) + 1 - 1) = (m : Int) := by omega
  have hmw : IntKind.i64.wrap (m : Int) = (m : Int) := IntWalk.i64_in _ (by omega)
  refine join_ (σ := Value × Option Addr) 2 #[true, true, true, true, true, true, true, true, true, true, false, false] (fun s => [(10, s.1), (15, .slice s.2 m m)]) (fun s W1 => (Kd.R (Kd.int .u8) 5 W1 w.heap.size (fun _ => True) s.1 [tI (g l at_)] ∧ RL gv W1 s.2 m ((r.drop (at_ * m)).take m)) ∧ Below w.heap.size w W1) ?_ (fun hJ => ?_)
  · rintro ⟨v10, B1⟩ W1 ⟨⟨hR, hC⟩, hB1⟩
    refine norm_ (a' := ?_) ?_ ?_
    rotate_left
    · simp only [putAll, List.foldl, Act.put, List.setIfInBounds_toArray, List.set_cons_zero, List.set_cons_succ]
      rfl
    refine one_ (i := 10) (N := some 16) #[true, true, true, true, true, true, true, true, true, true, true, false] rfl rfl (by kernel_rfl) (by decide) (fun K hK => ?_)
    refine Kd.R_append_rows_step (Kd.int .u8) (w0 := w) w.heap.size (by rfl) (.tmp 10) (.tmp 15) 30 5 (.int .u8 0) 1 rfl slice_u8 Try.info5 rfl (by decide) (by omega) v10 [tI (g l at_)] (((r.drop (at_ * m)).take m).map tI) _ _ _ (fun _ => True) (fun _ => False) rfl rfl hR (C_of_rl hC) (fun _ _ h => h) (fun _ h => h.elim) (fun _ _ => trivial) hB1 hB1.size (by simp; omega) ?_
    intro v1 w1 hR1 hb1 _ _
    refine hK.out _ _ (HS.out _ hb1) (fun _ => ?_)
    clear hK K
    refine norm_ (a' := ?_) ?_ ?_
    rotate_left
    · simp only [Act.put, List.setIfInBounds_toArray, List.set_cons_zero, List.set_cons_succ]
      rfl
    refine pure_ (i := 11) (N := some 5) (v := ?_) (a' := ?_) #[true, true, true, true, true, true, true, true, true, true, true, true] rfl rfl (by kernel_rfl) (fun _ _ _ h => h) (Or.inl ⟨by rfl, ?_⟩) ?_ ?_
    rotate_left
    · intro w'
      go_simp
      with_reducible rfl
    rotate_left
    · simp only [Act.put, List.setIfInBounds_toArray, List.set_cons_zero, List.set_cons_succ]
      rfl
    refine done_ (by kernel_rfl) ?_
    go_wp2_with fail
    go_ret
    exact ⟨⟨_, _, rfl, own_of_R (l := g l at_ :: (r.drop (at_ * m)).take m) hR1⟩, hb1⟩
  refine two_ (i := 4) (j := 9) (Ni := some 10) (Nj := some 15) #[true, true, true, true, true, true, true, true, true, false, false, false] #[true, true, true, true, false, true, true, true, true, true, false, false] rfl rfl rfl rfl (by kernel_rfl) (by decide) (by decide) (fun K hK => ?_) (fun K hK => ?_)
  · refine Kd.R_lit_step (Kd.int .u8) (w0 := w) w.heap.size 5 (by rfl) (N := 10) rfl (xs := [tI (g l at_)]) (inner := [gv (g l at_)]) (ok := fun _ => True) (okp := fun _ => True) (by first | (go_simp; done) | (go_simp; rfl)) (Reps.one (show Kd.M (Kd.int .u8) _ _ _ (tI (g l at_)) [gv (g l at_)] from rfl) (Reps.none _ _)) (fun _ hk => hk) trivial hBd hBd.size (by simp) ?_
    intro v1 w1 hR1 hb1 hg1 _
    refine hK.out _ _ (HS.out _ hb1) (fun _ => ?_)
    clear hK K
    refine norm_ (a' := ?_) ?_ ?_
    rotate_left
    · show Act.put _ (some 10) _ = _
      simp only [Act.put, List.setIfInBounds_toArray, List.set_cons_zero, List.set_cons_succ]
      rfl
    refine one_ (i := 9) (N := some 15) #[true, true, true, true, true, true, true, true, true, true, false, false] rfl rfl (by kernel_rfl) (by decide) (fun K hK => ?_)
    refine goes_ Try.func42 (by kernel_rfl) rfl #[.slice B n2 c2, .int .i64 (at_ : Int), .int .i64 (m : Int)] (by rfl) rfl rfl (by simp [Act.eval, hmm, hmw]) ?_
    refine (piece_u B n2 c2 r at_ m _ (HR.out.below hb1) hc2 hb hn2 (by omega) (by omega)).mono ?_
    rintro e w3 ⟨B1, rfl, hr1, rfl⟩
    refine ⟨_, rfl, ?_⟩
    refine hK.out _ _ (HS.out _ hb1) (fun _ => ?_)
    clear hK K
    refine norm_ (a' := ?_) ?_ ?_
    rotate_left
    · show Act.put _ (some 15) _ = _
      simp only [Act.put, List.setIfInBounds_toArray, List.set_cons_zero, List.set_cons_succ]
      rfl
    exact hJ (v1, B1) w1 ⟨⟨hR1, hr1⟩, hb1⟩
  · refine goes_ Try.func42 (by kernel_rfl) rfl #[.slice B n2 c2, .int .i64 (at_ : Int), .int .i64 (m : Int)] (by rfl) rfl rfl (by simp [Act.eval, hmm, hmw]) ?_
    refine (piece_u B n2 c2 r at_ m _ hrd hc2 hb hn2 (by omega) (by omega)).mono ?_
    rintro e w3 ⟨B1, rfl, hr1, rfl⟩
    refine ⟨_, rfl, ?_⟩
    refine hK.out _ _ (HS.out _ hBd) (fun _ => ?_)
    clear hK K
    refine norm_ (a' := ?_) ?_ ?_
    rotate_left
    · show Act.put _ (some 15) _ = _
      simp only [Act.put, List.setIfInBounds_toArray, List.set_cons_zero, List.set_cons_succ]
      rfl
    refine one_ (i := 4) (N := some 10) #[true, true, true, true, true, true, true, true, true, true, false, false] rfl rfl (by kernel_rfl) (by decide) (fun K hK => ?_)
    refine Kd.R_lit_step (Kd.int .u8) (w0 := w) w.heap.size 5 (by rfl) (N := 10) rfl (xs := [tI (g l at_)]) (inner := [gv (g l at_)]) (ok := fun _ => True) (okp := fun _ => True) (by first | (go_simp; done) | (go_simp; rfl)) (Reps.one (show Kd.M (Kd.int .u8) _ _ _ (tI (g l at_)) [gv (g l at_)] from rfl) (Reps.none _ _)) (fun _ hk => hk) trivial hBd hBd.size (by simp) ?_
    intro v1 w1 hR1 hb1 hg1 _
    refine hK.out _ _ (HS.out _ hb1) (fun _ => ?_)
    clear hK K
    refine norm_ (a' := ?_) ?_ ?_
    rotate_left
    · show Act.put _ (some 10) _ = _
      simp only [Act.put, List.setIfInBounds_toArray, List.set_cons_zero, List.set_cons_succ]
      rfl
    exact hJ (v1, B1) w1 ⟨⟨hR1, hr1.below (grown_below hg1)⟩, hb1⟩
end Go.Proofs.Ytillfbohengpaaa
end
section
set_option linter.unusedVariables false
set_option linter.unusedSimpArgs false
namespace Go.Proofs.Ytillfbohengpaaa
open Go.RowKit Gf Go.Sort Go.Proofs.YtillfbohengpaaaW.PrintWords PA
def lineG (secret coins : List G) (m at_ : Nat) : List G := g secret at_ :: (coins.drop (at_ * m)).take m
def dataG (secret coins : List G) (m i : Nat) : List G := (List.range secret.length).map fun at_ => ev (lineG secret coins m at_) (BitVec.ofNat 8 i)
def shareG (secret coins : List G) (ep : Int) (m n i : Nat) : Sh := ⟨ep, (i : Int), (m : Int) + 1, (n : Int), dataG secret coins m i⟩
def splitTo (secret coins : List G) (ep : Int) (m n k : Nat) : List Sh := (List.range k).map fun j => shareG secret coins ep m n (j + 1)
theorem splitTo_succ (secret coins : List G) (ep : Int) (m n k : Nat) : splitTo secret coins ep m n (k + 1) = splitTo secret coins ep m n k ++ [shareG secret coins ep m n (k + 1)] := by simp [splitTo, List.range_succ]
def splitErr (len coins : Nat) (ep th mn : Int) : Int :=
  if 64 < len then 1 else if th < 1 ∨ mn < th ∨ 8 < mn then 80 else if ep < 0 ∨ 1048576 < ep then 81 else if (coins : Int) ≠ (len : Int) * (th - 1) then 1 else 0
def RetSh (e : Ending) (w' : World) (base : Nat) (l : List Sh) (er : Int) : Prop := ∃ v, e = .returned (.tuple #[v, .int .i64 er]) ∧ Kd.S k52 52 w' base (fun _ => True) v (l.map sI)
theorem RetSh.none (w' : World) (base : Nat) (er : Int) : RetSh (.returned (.tuple #[.slice none 0 0, .int .i64 er])) w' base [] er := ⟨_, rfl, Kd.S_nil _ _ _ _ _⟩
theorem Try.info52 : (Try.prog.info? 52).map (fun i => (i.zero, i.size, i.bytes)) = some (some (.agg #[(.int .i64 0), (.int .i64 0), (.int .i64 0), (.int .i64 0), (.slice none 0 0)]), 5, 56) := by kernel_rfl
theorem slice_sh : Try.prog.underlying 37 = some (.slice 52) := by kernel_rfl
section
variable (A B : Option Addr) (n c n2 c2 : Nat) (l r : List G) (ep th mn : Int) (w : World)
set_option maxRecDepth 100000 in
set_option maxHeartbeats 2000000 in
theorem split_bad (hl : RL gv w A n l) (hr : RL gv w B n2 r) (hn : n ≤ 100000) (hn2 : n2 ≤ 9223372036854775807) (er : Int) (he : splitErr n n2 ep th mn = er) (h0 : er ≠ 0) :
    Calls Try.prog 25 #[.slice A n c, .int .i64 ep, .int .i64 th, .int .i64 mn, .slice B n2 c2] w fun e w' => RetSh e w' w.heap.size [] er ∧ Below w.heap.size w w' := by
  unfold splitErr at he
  clear hl hr
  by_cases q1 : 64 < n
  · rw [if_pos q1] at he
    have d1 : decide ((64 : Int) < (n : Int)) = true := decide_eq_true (by omega)
    subst he
    clear h0
    go_enter Try.func25, Try.ntmps25
    go_wp2_with fail
    go_ret2
    exact ⟨RetSh.none _ _ _, balloc (balloc (below_alloc1 _ _) _) _⟩
  rw [if_neg q1] at he
  have d1 : decide ((64 : Int) < (n : Int)) = false := decide_eq_false (by omega)
  by_cases q2 : th < 1 ∨ mn < th ∨ 8 < mn
  · rw [if_pos q2] at he
    subst he
    clear h0
    rcases q2 with q2 | q2
    · have d2 : decide (th < 1) = true := decide_eq_true q2
      go_enter Try.func25, Try.ntmps25
      go_wp2_with fail
      go_ret2
      exact ⟨RetSh.none _ _ _, balloc (balloc (below_alloc1 _ _) _) _⟩
    by_cases q20 : th < 1
    · have d2 : decide (th < 1) = true := decide_eq_true q20
      go_enter Try.func25, Try.ntmps25
      go_wp2_with fail
      go_ret2
      exact ⟨RetSh.none _ _ _, balloc (balloc (below_alloc1 _ _) _) _⟩
    have d2 : decide (th < 1) = false := decide_eq_false q20
    by_cases q21 : mn < th
    · have d3 : decide (mn < th) = true := decide_eq_true q21
      go_enter Try.func25, Try.ntmps25
      go_wp2_with fail
      go_ret2
      exact ⟨RetSh.none _ _ _, balloc (balloc (below_alloc1 _ _) _) _⟩
    have d3 : decide (mn < th) = false := decide_eq_false q21
    have d4 : decide (8 < mn) = true := decide_eq_true (by omega)
    go_enter Try.func25, Try.ntmps25
    go_wp2_with fail
    go_ret2
    exact ⟨RetSh.none _ _ _, balloc (balloc (below_alloc1 _ _) _) _⟩
  rw [if_neg q2] at he
  have d2 : decide (th < 1) = false := decide_eq_false (by omega)
  have d3 : decide (mn < th) = false := decide_eq_false (by omega)
  have d4 : decide (8 < mn) = false := decide_eq_false (by omega)
  have q2' : 1 ≤ th ∧ th ≤ 8 := by omega
  by_cases q3 : ep < 0 ∨ 1048576 < ep
  · rw [if_pos q3] at he
    subst he
    clear h0
    by_cases q30 : ep < 0
    · have d5 : decide (ep < 0) = true := decide_eq_true q30
      clear q2 q3
      go_enter Try.func25, Try.ntmps25
      go_wp2_with fail
      go_ret2
      exact ⟨RetSh.none _ _ _, balloc (balloc (below_alloc1 _ _) _) _⟩
    · have d5 : decide (ep < 0) = false := decide_eq_false q30
      have d6 : decide (1048576 < ep) = true := decide_eq_true (by omega)
      clear q2 q3
      go_enter Try.func25, Try.ntmps25
      go_wp2_with fail
      go_ret2
      exact ⟨RetSh.none _ _ _, balloc (balloc (below_alloc1 _ _) _) _⟩
  rw [if_neg q3] at he
  have d5 : decide (ep < 0) = false := decide_eq_false (by omega)
  have d6 : decide (1048576 < ep) = false := decide_eq_false (by omega)
  by_cases q4 : (n2 : Int) ≠ (n : Int) * (th - 1)
  case neg => rw [if_neg q4] at he; exact absurd he.symm h0
  rw [if_pos q4] at he
  subst he
  obtain ⟨m, rfl⟩ : ∃ m : Nat, th = (m : Int) + 1 := ⟨(th - 1).toNat, by omega⟩
  have hm8 : m ≤ 7 := by omega
  have hnm : n * m ≤ 700000 := Nat.le_trans (Nat.mul_le_mul hn hm8) (by omega)
  have ew : wrap64 ((n : Int) * (m : Int)) = (n : Int) * (m : Int) := by
    have h2 : (n : Int) * (m : Int) = ((n * m : Nat) : Int) := by simp
    rw [h2]; unfold wrap64; omega
  have d7 : ((n2 : Int) == (n : Int) * (m : Int)) = false := by
    rw [beq_eq_false_iff_ne]
    intro e; apply q4; rw [e]; congr 1; omega
  have d8 : ((n2 : Int) != (n : Int) * (m : Int)) = true := by rw [bne, d7]; rfl
  clear q2 q3 q4 h0 hnm
  go_enter Try.func25, Try.ntmps25
  go_wp2_with fail
  go_ret2
  exact ⟨RetSh.none _ _ _, balloc (balloc (below_alloc1 _ _) _) _⟩
end
end Go.Proofs.Ytillfbohengpaaa
end
section
set_option linter.unusedVariables false
set_option linter.unusedSimpArgs false
namespace Go.Proofs.Ytillfbohengpaaa
open Go.RowKit Gf Go.Sort Go.Proofs.YtillfbohengpaaaW.PrintWords PA
theorem callf {f : FuncId} {fn : Func} (hf : Try.prog.funcs[f]? = some fn) (hname : (fn.name == "runtime.NumGoroutine") = false) (hb : fn.body.isSome = true) : ∀ args W, Sem.run Try.prog (callFunc f args) W = .ok (.enter f args) W := fun args W => Go.Proofs.YtillfbohengpaaaW.PrintLast.enters_ hf hname hb args W
set_option maxRecDepth 100000 in
set_option maxHeartbeats 2000000 in
theorem split_ok (A B : Option Addr) (n c n2 c2 mn m : Nat) (l r : List G) (ep : Int) (w : World) (hl : RL gv w A n l) (hr : RL gv w B n2 r) (hc2 : n2 ≤ c2) (hn : n ≤ 64) (hm : m + 1 ≤ mn) (hmn : mn ≤ 8) (he0 : 0 ≤ ep) (he1 : ep ≤ 1048576) (hn2 : n2 = n * m) :
    Calls Try.prog 25 #[.slice A n c, .int .i64 ep, .int .i64 ((m : Int) + 1), .int .i64 (mn : Int), .slice B n2 c2] w fun e w' => RetSh e w' w.heap.size (splitTo l r ep m mn mn) 0 ∧ Below w.heap.size w w' := by
  have hll := hl.1
  have d1 : decide ((64 : Int) < (n : Int)) = false := decide_eq_false (by omega)
  have d2 : decide ((m : Int) + 1 < 1) = false := decide_eq_false (by omega)
  have d3 : decide ((mn : Int) < (m : Int) + 1) = false := decide_eq_false (by omega)
  have d4 : decide ((8 : Int) < (mn : Int)) = false := decide_eq_false (by omega)
  have d5 : decide (ep < 0) = false := decide_eq_false (by omega)
  have d6 : decide (1048576 < ep) = false := decide_eq_false (by omega)
  have hm7 : m ≤ 7 := by omega
  have hnm : n * m ≤ 448 := Nat.le_trans (Nat.mul_le_mul hn hm7) (by omega)
  have e2 : (n : Int) * (m : Int) = (n2 : Int) := by rw [hn2]; simp
  have ew : wrap64 ((n : Int) * (m : Int)) = (n2 : Int) := by rw [e2]; unfold wrap64; omega
  have hn2' : n2 ≤ 448 := by omega
  have HL := Lib.hid hl
  have HR := Lib.hid hr
  have HN := Lib.hid hn2
  have HLL := Lib.hid hll
  clear hl hr hn2 hnm hll e2
  go_enter Try.func25, Try.ntmps25
  go_wp2_with fail
  have hW : ∀ y : World, y = ((w.alloc (.cells #[.slice A n c] 30)).alloc (.cells #[.int .i64 ((m : Int) + 1)] 3)).alloc (.cells #[.slice B n2 c2] 30) →
      Below w.heap.size w y ∧ y.cell? ⟨w.heap.size, 0, none⟩ = some (.slice A n c) ∧ y.cell? ⟨w.heap.size + 1, 0, none⟩ = some (.int .i64 ((m : Int) + 1)) ∧ y.cell? ⟨w.heap.size + 1 + 1, 0, none⟩ = some (.slice B n2 c2) := by
    rintro y rfl
    refine ⟨balloc (balloc (below_alloc1 _ _) _) _, ?_, ?_, ?_⟩
    · rw [cell_old _ _ _ (by simp; omega), cell_old _ _ _ (by simp), cell_new _ _ _ _ _ _ rfl]; rfl
    · rw [cell_old _ _ _ (by simp), cell_new _ _ _ _ _ _ (by simp)]; rfl
    · rw [cell_new _ _ _ _ _ _ (by simp)]; rfl
  generalize hW0 : ((w.alloc (.cells #[.slice A n c] 30)).alloc (.cells #[.int .i64 ((m : Int) + 1)] 3)).alloc (.cells #[.slice B n2 c2] 30) = W0
  obtain ⟨hB0, hp1, hp2, hp3⟩ := hW W0 hW0.symm
  clear hW hW0
  refine (columns_sl 41 _ n (lineG l r m) W0 (by omega) (callf Try.func41 (by kernel_rfl) rfl) (fun at_ W hat hBW => ?_)).mono ?_
  · have hb : (at_ + 1) * m ≤ n2 := by rw [HN.out]; exact Nat.mul_le_mul_right _ hat
    refine (split1_u _ _ _ A B n c n2 c2 l r at_ m W (pw_cell_below hBW hp1) (pw_cell_below hBW hp3) (pw_cell_below hBW hp2) (HL.out.below (bthen hB0 hBW)) (HR.out.below (bthen hB0 hBW)) hc2 hat (by omega) (by omega) hb (by omega)).mono ?_
    rintro e w' ⟨⟨v, k, rfl, ho⟩, hb'⟩
    exact ⟨v, k, rfl, ho, hb'⟩
  rintro e w1 ⟨lv, vs, rfl, ho, hv, hb1⟩
  have hB1 := bthen hB0 hb1
  replace hp1 := pw_cell_below hb1 hp1
  replace hp2 := pw_cell_below hb1 hp2
  obtain ⟨LA, LC, rfl, hnc⟩ := ho.any
  have HO := Lib.hid ho
  have HV := Lib.hid hv
  clear ho hv
  go_wp2_with fail
  have hW : ∀ y : World, y = (w1.alloc (.cells #[.slice LA n LC] 50)).alloc (.cells #[.int .i64 1] 3) →
      Below w1.heap.size w1 y ∧ y.heap[w1.heap.size]? = some (.cells #[.slice LA n LC] 50 (0, 0)) ∧ y.heap[w1.heap.size + 1]? = some (.cells #[.int .i64 (((0 : Nat) : Int) + 1)] 3 (0, 0)) := by
    rintro y rfl
    refine ⟨balloc (below_alloc1 _ _) _, ?_, ?_⟩
    · exact blk_alloc (heap_alloc_new w1 _) _
    · have := heap_alloc_new (w1.alloc (.cells #[.slice LA n LC] 50)) (.cells #[.int .i64 1] 3)
      simpa using this
  generalize hW2 : (w1.alloc (.cells #[.slice LA n LC] 50)).alloc (.cells #[.int .i64 1] 3) = W2
  obtain ⟨hb2, hp12, hq2⟩ := hW W2 hW2.symm
  clear hW hW2
  have hB2 := bthen hB1 hb2
  have h1s := hb1.size
  have h0s := hB0.size
  go_loopg [10, 13] mn (fun kq v10 v13 wr => ∃ (k q : Nat), kq + k = mn ∧ v13 = .pointer (some ⟨q, 0, none⟩) ∧ Hid (wr.heap[q]? = some (.cells #[.int .i64 ((k : Int) + 1)] 3 (0, 0))) ∧ w.heap.size ≤ q ∧
    Kd.S k52 52 wr w1.heap.size (fun _ => True) v10 ((splitTo l r ep m mn k).map sI) ∧ Below w1.heap.size w1 wr ∧ Below w.heap.size w wr ∧ Hid (wr.heap[w1.heap.size]? = some (.cells #[.slice LA n LC] 50 (0, 0))))
  case atStart => exact ⟨0, w1.heap.size + 1, by omega, rfl, hq2, by omega, Kd.S_nil _ _ _ _ _, hb2, hB2, hp12⟩
  case round =>
    clear hp12 hq2 hb2 hB2
    obtain ⟨k, q, hkq, rfl, hq, hqb, hS, hb2, hB2, hpb⟩ := hrel
    have hp12 : wr.cell? ⟨w1.heap.size, 0, none⟩ = some (.slice LA n LC) := by rw [blk_cell hpb.out]; rfl
    have hqc : wr.cell? ⟨q, 0, none⟩ = some (.int .i64 ((k : Int) + 1)) := by rw [blk_cell hq.out]; rfl
    have hqf : wr.frozen? ⟨q, 0, none⟩ = false := blk_frozen hq.out 0
    have hqd := pw_cell_below hb2 hp1
    have hqe := pw_cell_below hb2 hp2
    by_cases hlt : k < mn
    · have hk1 : (k : Int) + 1 ≤ (mn : Int) := by omega
      go_wp2_with fail
      refine (columns_u8 44 _ n (fun at_ => ev (lineG l r m at_) (BitVec.ofNat 8 (k + 1))) wr (by omega) (callf Try.func44 (by kernel_rfl) rfl) (fun at_ W hat hBW => ?_)).mono ?_
      · exact split2_u _ _ LA n LC vs (lineG l r m) _ (k + 1) at_ W (pw_cell_below hBW hp12) (pw_cell_below hBW hqc) (HO.out.below (bthen hb2 hBW)) (HV.out.below (bthen hb2 hBW)) hat (by omega)
      rintro e w3 ⟨dv, rfl, hod, hb3⟩
      obtain ⟨DA, DC, rfl, _⟩ := hod.any
      have hB3 := bthen hB2 hb3
      have hS3 := Kd.S_elder' hS (fun k hk => (hod.lt k hk).1) hb3
      have hq3 : w3.heap[q]? = some (.cells #[.int .i64 ((k : Int) + 1)] 3 (0, 0)) := (hb3.block q (blk_lt hq.out)).trans hq.out
      have hqc3 := pw_cell_below hb3 hqc
      have hqe3 := pw_cell_below hb3 hqe
      have HP3 := Lib.hid (show w3.heap[w1.heap.size]? = _ from (hb3.block _ (blk_lt hpb.out)).trans hpb.out)
      have hb23 := bthenB hb2 hb2.size hb3
      have hdat : (List.range n).map (fun at_ => ev (lineG l r m at_) (BitVec.ofNat 8 (k + 1))) = dataG l r m (k + 1) := by unfold dataG; rw [HLL.out]
      rw [hdat] at hod
      have hM : k52.M w3 w1.heap.size (fun k_ => some k_ = (Value.slice DA n DC).ownBlock) (sI (shareG l r ep m mn (k + 1))) [.int .i64 ep, .int .i64 ((k : Int) + 1), .int .i64 ((m : Int) + 1), .int .i64 (mn : Int), .slice DA n DC] :=
        k52_mkM _ _ _ (sI (shareG l r ep m mn (k + 1))) (R_of_own (hod.rebase hb2.size) (fun _ h => h.symm))
      have hap : ∀ k_, some k_ = (Value.slice DA n DC).ownBlock → True ∧ some k_ ≠ u10.ownBlock := fun k_ hk => ⟨trivial, fun e => by
        have h1 := (hod.lt k_ hk.symm).1
        have h2 := Kd.S_lt hS k_ e.symm
        omega⟩
      have HM := Lib.hid hM
      have HAP := Lib.hid hap
      have HD := Lib.hid hdat
      have HS3 := Lib.hid (Kd.S_mono hS3 (ok' := fun k_ => True ∧ ¬ some k_ = (Value.slice DA n DC).ownBlock) (fun _ h => h))
      have HQ3 := Lib.hid hq3
      have hlen : ((splitTo l r ep m mn k).map sI).length = k := by simp [splitTo]
      have HLEN := Lib.hid hlen
      have HNP := Lib.hid (Kd.S_ne HS3.out HP3.out (by decide))
      have HNE := Lib.hid (Kd.S_ne HS3.out HQ3.out (by decide))
      clear hM hap hdat hS3 hod hq3 hlen hS hqc hqf hqe hp12
      go_wp2_with (at_builtin; refine Kd.S_append k52 (w0 := w1) w1.heap.size rfl (.tmp 60) (.tmp 67) 37 52 (.agg #[(.int .i64 0), (.int .i64 0), (.int .i64 0), (.int .i64 0), (.slice none 0 0)]) 56 rfl slice_sh Try.info52 rfl (by decide) (by omega) u10 ((splitTo l r ep m mn k).map sI) (sI (shareG l r ep m mn (k + 1))) [.int .i64 ep, .int .i64 ((k : Int) + 1), .int .i64 ((m : Int) + 1), .int .i64 (mn : Int), .slice DA n DC] (fun _ => True) (fun k_ => some k_ = (Value.slice DA n DC).ownBlock) rfl rfl HM.out HAP.out (fun _ _ => trivial) HS3.out hb23 hb23.size (by rw [HLEN.out]; omega) ?_; intro v5 w5 hS5 hB5 hg5 hat5; have hq5 := blk_grown HQ3.out hg5 HNE.out; have hqc5 : w5.cell? ⟨q, 0, none⟩ = some (.int .i64 ((k : Int) + 1)) := (by rw [blk_cell hq5]; rfl); have HQ5 := Lib.hid hq5; have HS5 := Lib.hid hS5; clear hq5 hS5)
      go_roundg (mn - (k + 1))
      case measure => omega
      case rel =>
        refine ⟨k + 1, w5.heap.size, by omega, rfl, ?_, ?_, ?_, ?_, ?_, ?_⟩
        · have := heap_alloc_new w5 (.cells #[.int .i64 ((k : Int) + 1 + 1)] 3)
          exact this
        · have := (bthen hB1 hB5).size; omega
        · rw [splitTo_succ, List.map_append]
          exact Kd.S_alloc HS5.out _
        · exact balloc hB5 _
        · exact balloc (bthen hB1 hB5) _
        · exact blk_alloc (blk_grown HP3.out hg5 HNP.out) _
    · obtain rfl : k = mn := by omega
      have hk1 : (k : Int) < (k : Int) + 1 := by omega
      go_wp2_with fail
      go_ret2
      exact ⟨⟨_, rfl, Kd.S_lower hS (by omega)⟩, hB2⟩
end Go.Proofs.Ytillfbohengpaaa
end
section
set_option linter.unusedVariables false
set_option linter.unusedSimpArgs false
namespace Go.Proofs.Ytillfbohengpaaa
open Go.RowKit Gf Go.Proofs.YtillfbohengpaaaW.PrintWords PA
theorem tI_gI_mod (x : Int) : tI (gI x) = x % 256 := by
  unfold tI gI
  rw [BitVec.toNat_ofInt]
  omega
def xsG (l : List Sh) : List G := l.map fun s => gI s.ix
def ysG (l : List Sh) (at_ : Nat) : List G := l.map fun s => g s.da at_
theorem rd_map (l : List G) (i : Nat) (h : i < l.length) : rd (l.map tI) (i : Int) = tI (g l i) := by simp [rd, h, g_eq]
theorem rdT_map (l : List Sh) (i : Nat) (h : i < l.length) : rd_T52 (l.map sI) (i : Int) = sI l[i] := by simp [rd_T52, h]
theorem take_succ_map {α β : Type} (f : α → β) (l : List α) (i : Nat) (h : i < l.length) : (l.take (i + 1)).map f = (l.take i).map f ++ [f l[i]] := by
  rw [List.take_succ_eq_append_getElem h, List.map_append]; rfl
theorem w64 (x : Int) (h0 : -9223372036854775808 ≤ x) (h1 : x ≤ 9223372036854775807) : wrap64 x = x := by unfold wrap64; omega
theorem pts_l (L : List Sh) (at_ : Nat) (h : ∀ s ∈ L, at_ < s.da.length) (hl : L.length ≤ 100000) : ∀ d i k, i + d = L.length → d < k →
    shares_points.l0 k (at_ : Int) ((xsG (L.take i)).map tI) ((ysG (L.take i) at_).map tI) (L.map sI) (L.length : Int) (i : Int) = some ((xsG L).map tI, (ysG L at_).map tI) := by
  intro d
  induction d with
  | zero =>
    intro i k hi hk
    obtain ⟨k, rfl⟩ : ∃ m, k = m + 1 := ⟨k - 1, by omega⟩
    simp only [shares_points.l0]
    rw [if_neg (by omega), List.take_of_length_le (by omega)]
  | succ d ih =>
    intro i k hi hk
    obtain ⟨k, rfl⟩ : ∃ m, k = m + 1 := ⟨k - 1, by omega⟩
    have hil : i < L.length := by omega
    have hm := h L[i] (List.getElem_mem hil)
    simp only [shares_points.l0]
    rw [if_pos (by omega), if_pos (by omega), if_pos (by rw [List.length_map]; omega), rdT_map L i hil]
    simp only [Option.bind_some]
    rw [if_pos (by simp [xsG]; omega), if_pos (by omega), if_pos (by simp [sI]; omega)]
    simp only [sI]
    rw [rd_map _ _ hm, if_pos (by simp [ysG]; omega), w64 _ (by omega) (by omega)]
    have h1 : (xsG (L.take i)).map tI ++ [L[i].ix % 256] = (xsG (L.take (i + 1))).map tI := by
      unfold xsG
      rw [take_succ_map _ _ _ hil, List.map_append, ← tI_gI_mod]; rfl
    have h2 : (ysG (L.take i) at_).map tI ++ [tI (g L[i].da at_)] = (ysG (L.take (i + 1)) at_).map tI := by
      unfold ysG
      rw [take_succ_map _ _ _ hil, List.map_append]; rfl
    rw [h1, h2]
    exact ih (i + 1) k (by omega) (by omega)
theorem pts_f (L : List Sh) (at_ : Nat) (h : ∀ s ∈ L, at_ < s.da.length) (hl : L.length ≤ 100000) (k : Nat) (hk : L.length < k) :
    shares_points.f k (L.map sI) (at_ : Int) = some ((xsG L).map tI, (ysG L at_).map tI) := by
  unfold shares_points.f
  rw [List.length_map]
  exact pts_l L at_ h hl L.length 0 k (by omega) hk
def RetTwo (e : Ending) (w' : World) (n : Nat) (xs ys : List G) : Prop := ∃ X Y cx cy, e = .returned (.tuple #[.slice X n cx, .slice Y n cy]) ∧ RL gv w' X n xs ∧ RL gv w' Y n ys
theorem rl_of_R {E : TypeId} {w : World} {base : Nat} {ok : Nat → Prop} {v : Value} {l : List G} (h : Kd.R (Kd.int .u8) E w base ok v (l.map tI)) : ∃ A c, v = .slice A l.length c ∧ RL gv w A l.length l := (own_of_R h).rl
theorem points_sh (A : Option Addr) (c n : Nat) (L : List Sh) (at_ : Nat) (w : World) (hC : Kd.C k52 w A n (L.map sI)) (hc : n ≤ c) (h : ∀ s ∈ L, at_ < s.da.length) (hl : n ≤ 100000) :
    Calls Try.prog 50 #[.slice A n c, .int .i64 (at_ : Int)] w fun e w' => RetTwo e w' n (xsG L) (ysG L at_) ∧ Below w.heap.size w w' := by
  have hn : L.length = n := by have := hC.1; rwa [List.length_map] at this
  subst hn
  have hm : (L.map sI).length = L.length := List.length_map ..
  have := shares_points.calls (L.length + 1) A c (L.map sI) (at_ : Int) _ _ w (by rw [hm]; exact hC) (by rw [hm]; exact hc) (pts_f L at_ h hl _ (by omega))
  rw [hm] at this
  refine this.mono ?_
  rintro e w' ⟨v0, v1, rfl, h0, h1, hb⟩
  obtain ⟨X, cx, rfl, hx⟩ := rl_of_R h0
  obtain ⟨Y, cy, rfl, hy⟩ := rl_of_R h1
  rw [show (xsG L).length = L.length from by simp [xsG]] at hx
  rw [show (ysG L at_).length = L.length from by simp [ysG]] at hy
  refine ⟨⟨X, Y, cx, cy, ?_, hx, hy⟩, hb⟩
  rw [show (xsG L).length = L.length from by simp [xsG], show (ysG L at_).length = L.length from by simp [ysG]]
theorem C_take {w : World} {A : Option Addr} {n t : Nat} {l : List S52} (h : Kd.C k52 w A n l) (ht : t ≤ n) : Kd.C k52 w A t (l.take t) := by
  refine ⟨by rw [List.length_take]; have := h.1; omega, by have := h.2.1; omega, fun h0 => ?_⟩
  obtain ⟨ad, e, hc⟩ := h.2.2 (by omega)
  refine ⟨ad, e, fun j p hj => hc j p ?_⟩
  rw [List.getElem?_take] at hj
  split at hj
  · exact hj
  · cases hj
end Go.Proofs.Ytillfbohengpaaa
end
section
set_option linter.unusedVariables false
set_option linter.unusedSimpArgs false
namespace Go.Proofs.Ytillfbohengpaaa
open Gf
theorem chain_spec (a : Sh) : ∀ (l : List Sh) (last : Int), chainB a last l = true → (∀ s ∈ l, s.th = a.th ∧ s.mn = a.mn ∧ s.da.length = a.da.length ∧ last < s.ix ∧ s.ix ≤ a.mn) ∧ l.Pairwise (fun x y => x.ix < y.ix)
  | [], _, _ => ⟨fun _ h => by simp at h, List.Pairwise.nil⟩
  | s :: r, last, h => by
    simp only [chainB, okAt, Bool.and_eq_true, decide_eq_true_eq] at h
    obtain ⟨⟨⟨⟨⟨h1, h2⟩, h3⟩, h4⟩, h5⟩, h6⟩ := h
    obtain ⟨k1, k2⟩ := chain_spec a r s.ix h6
    refine ⟨fun x hx => ?_, List.Pairwise.cons (fun y hy => (k1 y hy).2.2.2.1) k2⟩
    rcases List.mem_cons.1 hx with rfl | hx
    · exact ⟨h1, h2, h3, h4, by omega⟩
    · obtain ⟨g1, g2, g3, g4, g5⟩ := k1 x hx
      exact ⟨g1, g2, g3, by omega, g5⟩
theorem chain_of (a : Sh) : ∀ (l : List Sh) (last : Int), (∀ s ∈ l, s.th = a.th ∧ s.mn = a.mn ∧ s.da.length = a.da.length ∧ last < s.ix ∧ s.ix ≤ a.mn) → l.Pairwise (fun x y => x.ix < y.ix) → chainB a last l = true
  | [], _, _, _ => rfl
  | s :: r, last, h, hp => by
    obtain ⟨g1, g2, g3, g4, g5⟩ := h s List.mem_cons_self
    rw [List.pairwise_cons] at hp
    have := chain_of a r s.ix (fun x hx => by obtain ⟨k1, k2, k3, k4, k5⟩ := h x (List.mem_cons_of_mem _ hx); exact ⟨k1, k2, k3, hp.1 x hx, k5⟩) hp.2
    simp only [chainB, okAt, Bool.and_eq_true, decide_eq_true_eq]
    exact ⟨⟨⟨⟨⟨g1, g2⟩, g3⟩, g4⟩, by omega⟩, this⟩
structure Alike (a : Sh) (r : List Sh) : Prop where
  t1 : 1 ≤ a.th
  t2 : a.th ≤ a.mn
  t3 : a.mn ≤ 8
  d : a.da.length ≤ 64
  all : ∀ s ∈ a :: r, s.th = a.th ∧ s.mn = a.mn ∧ s.da.length = a.da.length ∧ 0 < s.ix ∧ s.ix ≤ a.mn
  inc : (a :: r).Pairwise (fun x y => x.ix < y.ix)
theorem alike_spec (a : Sh) (r : List Sh) : alikeB (a :: r) = true ↔ Alike a r := by
  constructor
  · intro h
    simp only [alikeB, headB, Bool.and_eq_true, decide_eq_true_eq] at h
    obtain ⟨⟨⟨⟨h1, h2⟩, h3⟩, h4⟩, h5⟩ := h
    obtain ⟨k1, k2⟩ := chain_spec a (a :: r) 0 h5
    exact ⟨h1, h2, h3, h4, k1, k2⟩
  · intro h
    simp only [alikeB, headB, Bool.and_eq_true, decide_eq_true_eq]
    exact ⟨⟨⟨⟨h.t1, h.t2⟩, h.t3⟩, h.d⟩, chain_of a _ 0 h.all h.inc⟩
theorem eps_spec (a : Sh) (l : List Sh) : epsB a l = true ↔ ∀ s ∈ l, s.ep = a.ep ∧ 0 ≤ s.ep ∧ s.ep ≤ 1048576 := by
  unfold epsB
  rw [List.all_eq_true]
  simp only [epOk, Bool.and_eq_true, decide_eq_true_eq, and_assoc]
theorem checkR_cons (a : Sh) (r : List Sh) : checkR (a :: r) = if alikeB (a :: r) = true then epR (epsB a (a :: r)) else 80 := rfl
theorem epR_zero {b : Bool} (h : epR b = 0) : b = true := by cases b <;> simp [epR] at h ⊢
theorem check0 {L : List Sh} (h : checkR L = 0) : ∃ a r, L = a :: r ∧ Alike a r ∧ ∀ s ∈ L, s.ep = a.ep ∧ 0 ≤ s.ep ∧ s.ep ≤ 1048576 := by
  cases L with
  | nil => simp [checkR] at h
  | cons a r =>
    rw [checkR_cons] at h
    by_cases ha : alikeB (a :: r) = true
    · rw [if_pos ha] at h
      exact ⟨a, r, rfl, (alike_spec a r).1 ha, (eps_spec a _).1 (epR_zero h)⟩
    · rw [if_neg ha] at h
      simp at h
theorem check0_of {a : Sh} {r : List Sh} (h : Alike a r) (he : ∀ s ∈ a :: r, s.ep = a.ep ∧ 0 ≤ s.ep ∧ s.ep ≤ 1048576) : checkR (a :: r) = 0 := by
  rw [checkR_cons, if_pos ((alike_spec a r).2 h), (eps_spec a _).2 he]; rfl
theorem gI_lt {x y : Int} (hx : 0 ≤ x ∧ x < 256) (hy : 0 ≤ y ∧ y < 256) (h : x ≠ y) : gI x ≠ gI y := fun e => h (by rw [← tI_gI x hx.1 hx.2, e, tI_gI y hy.1 hy.2])
theorem xs_nodup {l : List Sh} (h : ∀ s ∈ l, 0 < s.ix ∧ s.ix ≤ 8) (hp : l.Pairwise (fun x y => x.ix < y.ix)) : (xsG l).Nodup := by
  unfold xsG List.Nodup
  rw [List.pairwise_map]
  refine List.Pairwise.imp_of_mem (fun {x y} hx hy hxy => ?_) hp
  have h1 := h x hx
  have h2 := h y hy
  exact gI_lt ⟨by omega, by omega⟩ ⟨by omega, by omega⟩ (by omega)
theorem Alike.nodup_take {a : Sh} {r : List Sh} (h : Alike a r) (t : Nat) : (xsG ((a :: r).take t)).Nodup :=
  xs_nodup (fun s hs => by obtain ⟨_, _, _, h4, h5⟩ := h.all s (List.mem_of_mem_take hs); have := h.t3; omega) (h.inc.sublist (List.take_sublist _ _))
theorem inc_len : ∀ (l : List Sh) (lo : Int) (hi : Int), (∀ s ∈ l, lo < s.ix ∧ s.ix ≤ hi) → l.Pairwise (fun x y => x.ix < y.ix) → (l.length : Int) ≤ hi - lo ∨ l = []
  | [], _, _, _, _ => .inr rfl
  | s :: r, lo, hi, h, hp => by
    rw [List.pairwise_cons] at hp
    obtain ⟨h1, h2⟩ := h s List.mem_cons_self
    rcases inc_len r s.ix hi (fun x hx => ⟨hp.1 x hx, (h x (List.mem_cons_of_mem _ hx)).2⟩) hp.2 with k | k
    · left; simp only [List.length_cons]; omega
    · subst k; left; simp only [List.length_cons, List.length_nil]; omega
theorem Alike.len {a : Sh} {r : List Sh} (h : Alike a r) : ((a :: r).length : Int) ≤ a.mn := by
  rcases inc_len (a :: r) 0 a.mn (fun s hs => ⟨(h.all s hs).2.2.2.1, (h.all s hs).2.2.2.2⟩) h.inc with k | k
  · omega
  · cases k
end Go.Proofs.Ytillfbohengpaaa
end
section
set_option linter.unusedVariables false
set_option linter.unusedSimpArgs false
namespace Go.Proofs.Ytillfbohengpaaa
open Go.RowKit Gf Go.Sort Go.Proofs.YtillfbohengpaaaW.PrintWords PA
def joinAt (L : List Sh) (t at_ : Nat) : G := ev (coefs (xsG (L.take t)) (ysG (L.take t) at_)) 0#8
set_option maxRecDepth 100000 in
set_option maxHeartbeats 2000000 in
theorem join1_u (p q : Nat) (A : Option Addr) (n c t : Nat) (L : List Sh) (at_ : Nat) (w : World) (hp : w.cell? ⟨p, 0, none⟩ = some (.slice A n c)) (hq : w.cell? ⟨q, 0, none⟩ = some (.int .i64 (t : Int)))
    (hC : Kd.C k52 w A n (L.map sI)) (hc : n ≤ c) (ht : t ≤ n) (hn : n ≤ 1000) (hat : ∀ s ∈ L, at_ < s.da.length) (hnd : (xsG (L.take t)).Nodup) :
    Calls Try.prog 49 #[.int .i64 (at_ : Int), .pointer (some ⟨p, 0, none⟩), .pointer (some ⟨q, 0, none⟩)] w fun e w' => e = .returned (gv (joinAt L t at_)) ∧ Below w.heap.size w w' := by
  have htc : t ≤ c := by omega
  have HC := Lib.hid hC
  have hC2 := C_take hC ht
  rw [← List.map_take] at hC2
  have HC2 := Lib.hid hC2
  have HA := Lib.hid hat
  clear hC hC2 hat
  go_enter Try.func49, Try.ntmps49
  go_wp2_with fail
  refine (points_sh A _ t (L.take t) at_ w HC2.out htc (fun s hs => HA.out s (List.mem_of_mem_take hs)) (by omega)).mono ?_
  rintro e w1 ⟨⟨X, Y, cx, cy, rfl, hx, hy⟩, hb1⟩
  go_wp2_with fail
  refine (through_ok X Y cx cy t _ _ 0#8 w1 hx hy hnd (by omega)).mono ?_
  rintro e w2 ⟨rfl, hb2⟩
  go_wp2_with fail
  go_ret
  exact ⟨rfl, bthen hb1 hb2⟩
def RetBs (e : Ending) (w' : World) (base : Nat) (l : List G) (er : Int) : Prop := ∃ v, e = .returned (.tuple #[v, .int .i64 er]) ∧ Kd.R (Kd.int .u8) 5 w' base (fun _ => True) v (l.map tI)
theorem RetBs.none (w' : World) (base : Nat) (er : Int) : RetBs (.returned (.tuple #[.slice none 0 0, .int .i64 er])) w' base [] er := ⟨_, rfl, Kd.R_nil _ _ _ _ _⟩
def thN (L : List Sh) : Nat := match L with | [] => 0 | a :: _ => a.th.toNat
def dlN (L : List Sh) : Nat := match L with | [] => 0 | a :: _ => a.da.length
def joinE (L : List Sh) : Int := if checkR L = 0 then (if L.length < thN L then 80 else 0) else checkR L
def joinR (L : List Sh) : List G := if joinE L = 0 then (List.range (dlN L)).map (joinAt L (thN L)) else []
set_option maxRecDepth 100000 in
set_option maxHeartbeats 2000000 in
theorem join_u (A : Option Addr) (n c : Nat) (L : List Sh) (w : World) (hC : Kd.C k52 w A n (L.map sI)) (hc : n ≤ c) :
    Calls Try.prog 30 #[.slice A n c] w fun e w' => RetBs e w' w.heap.size (joinR L) (joinE L) ∧ Below w.heap.size w w' := by
  have hrs := rs_of_C hC
  by_cases hck : checkR L = 0
  case neg =>
    have hE : joinE L = checkR L := by simp [joinE, hck]
    have hR : joinR L = [] := by simp [joinR, hE, hck]
    rw [hE, hR]
    have HRS := Lib.hid hrs
    have d1 : (checkR L == 0) = false := by simp [hck]
    have d2 : (checkR L != 0) = true := by simp [hck]
    clear hrs hC hE hR hck
    go_enter Try.func30, Try.ntmps30
    go_wp2_with fail
    refine (check_u (HRS.out.below (below_alloc1 _ _))).mono ?_
    rintro e w1 ⟨rfl, hb1⟩
    go_wp2_with fail
    go_ret2
    exact ⟨RetBs.none _ _ _, bthen (below_alloc1 _ _) hb1⟩
  obtain ⟨a, r, rfl, hal, hep⟩ := check0 hck
  have hn := hC.1
  rw [List.length_map] at hn
  obtain ⟨t, ht⟩ : ∃ t : Nat, a.th = (t : Int) := ⟨a.th.toNat, by have := hal.t1; omega⟩
  have htn : thN (a :: r) = t := by simp [thN, ht]
  have ht8 : t ≤ 8 := by have := hal.t2; have := hal.t3; omega
  have hlen8 : n ≤ 8 := by have := hal.len; have := hal.t3; omega
  obtain ⟨b, o, rfl, hb, hc0⟩ := hrs.at 0 (by rw [← hn]; simp)
  obtain ⟨x0, x1, c2, x3, Ad, nd, cd, c4, hda⟩ := hc0
  clear x0 x1 x3
  simp only [List.getElem_cons_zero, Nat.zero_mul, Nat.add_zero] at c2 c4 hda
  rw [ht] at c2
  obtain rfl : nd = a.da.length := hda.1.symm
  have hlen64 := hal.d
  have hda2 : ∀ s ∈ a :: r, s.da.length = a.da.length := fun s hs => (hal.all s hs).2.2.1
  have HAL := Lib.hid hal
  have HRS := Lib.hid hrs
  have HC := Lib.hid hC
  have HN := Lib.hid hn
  have HD := Lib.hid hda2
  have hni : (0 : Int) < (n : Int) := by have := hn; simp at this; omega
  by_cases hlt : n < t
  · have hE : joinE (a :: r) = 80 := by unfold joinE; rw [if_pos hck, htn, if_pos (by omega)]
    have hR : joinR (a :: r) = [] := by unfold joinR; rw [hE]; rfl
    rw [hE, hR]
    have d3 : decide ((n : Int) < (t : Int)) = true := decide_eq_true (by omega)
    have HCK := Lib.hid hck
    clear hrs hC hE hR hck hn hal hep hda hda2 htn ht
    go_enter Try.func30, Try.ntmps30
    go_wp2_with fail
    refine (check_u (HRS.out.below (below_alloc1 _ _))).mono ?_
    rintro e w1 ⟨rfl, hb1⟩
    rw [HCK.out]
    have hB1 := bthen (below_alloc1 w _) hb1
    have hc1 : w1.cell? ⟨w.heap.size, 0, none⟩ = some (.slice (some ⟨b, o, none⟩) n c) := pw_cell_below hb1 (by rw [cell_new _ _ _ _ _ _ rfl]; rfl)
    have hz1 : w.heap.size < w1.heap.size := World.block_lt_of_cell? _ _ hc1
    have hz2 : b < w1.heap.size := Nat.lt_of_lt_of_le hb hB1.size
    replace c2 := pw_cell_below hB1 c2
    go_wp2_with fail
    go_ret2
    exact ⟨RetBs.none _ _ _, balloc hB1 _⟩
  · have hE : joinE (a :: r) = 0 := by unfold joinE; rw [if_pos hck, htn, if_neg (by omega)]
    have hR : joinR (a :: r) = (List.range a.da.length).map (joinAt (a :: r) t) := by unfold joinR; rw [hE, htn]; rfl
    rw [hE, hR]
    have d3 : decide ((n : Int) < (t : Int)) = false := decide_eq_false (by omega)
    have HCK := Lib.hid hck
    clear hrs hC hE hR hck hn hal hep hda hda2 htn ht
    go_enter Try.func30, Try.ntmps30
    go_wp2_with fail
    refine (check_u (HRS.out.below (below_alloc1 _ _))).mono ?_
    rintro e w1 ⟨rfl, hb1⟩
    rw [HCK.out]
    have hB1 := bthen (below_alloc1 w _) hb1
    have hc1 : w1.cell? ⟨w.heap.size, 0, none⟩ = some (.slice (some ⟨b, o, none⟩) n c) := pw_cell_below hb1 (by rw [cell_new _ _ _ _ _ _ rfl]; rfl)
    have hz1 : w.heap.size < w1.heap.size := World.block_lt_of_cell? _ _ hc1
    have hz2 : b < w1.heap.size := Nat.lt_of_lt_of_le hb hB1.size
    replace c2 := pw_cell_below hB1 c2
    replace c4 := pw_cell_below hB1 c4
    go_wp2_with fail
    have hW : ∀ y : World, y = w1.alloc (.cells #[.int .i64 (t : Int)] 3) → Below w1.heap.size w1 y ∧ y.cell? ⟨w1.heap.size, 0, none⟩ = some (.int .i64 (t : Int)) := by
      rintro y rfl
      exact ⟨below_alloc1 _ _, by rw [cell_new _ _ _ _ _ _ rfl]; rfl⟩
    generalize hW0 : w1.alloc (.cells #[.int .i64 (t : Int)] 3) = W0
    obtain ⟨hb2, hq⟩ := hW W0 hW0.symm
    clear hW hW0
    have hB2 := bthen hB1 hb2
    refine (columns_u8 49 _ a.da.length (joinAt (a :: r) t) W0 (by omega) (callf Try.func49 (by kernel_rfl) rfl) (fun at_ W hat hBW => ?_)).mono ?_
    · exact join1_u _ _ (some ⟨b, o, none⟩) n c t (a :: r) at_ W (pw_cell_below hBW (pw_cell_below hb2 hc1)) (pw_cell_below hBW hq) (Kd.C_below HC.out (bthen hB2 hBW)) hc (by omega) (by omega) (fun s hs => by rw [HD.out s hs]; exact hat) (HAL.out.nodup_take t)
    rintro e w3 ⟨v, rfl, hov, hb3⟩
    have hR := R_of_own (ok := fun _ => True) (hov.rebase hB2.size) (fun _ _ => trivial)
    have hB3 := bthen hB2 hb3
    have HR := Lib.hid hR
    clear hR hov
    go_wp2_with fail
    go_ret2
    exact ⟨⟨v, rfl, HR.out⟩, hB3⟩
end Go.Proofs.Ytillfbohengpaaa
end
section
set_option linter.unusedVariables false
set_option linter.unusedSimpArgs false
namespace Go.Proofs.Ytillfbohengpaaa
open Go.RowKit Gf Go.Sort Go.Proofs.YtillfbohengpaaaW.PrintWords PA
attribute [local go_sem] bits_gx
set_option maxRecDepth 100000 in
set_option maxHeartbeats 2000000 in
theorem refresh1_u (p q z : Nat) (A B : Option Addr) (n c n2 c2 i : Nat) (L Z : List Sh) (at_ : Nat) (w : World) (hp : w.cell? ⟨p, 0, none⟩ = some (.slice A n c)) (hq : w.cell? ⟨q, 0, none⟩ = some (.int .i64 (i : Int))) (hz : w.cell? ⟨z, 0, none⟩ = some (.slice B n2 c2))
    (hL : RS w A n L) (hZ : RS w B n2 Z) (hi : i < L.length) (hi2 : i < Z.length) (ha : at_ < L[i].da.length) (ha2 : at_ < Z[i].da.length) :
    Calls Try.prog 54 #[.int .i64 (at_ : Int), .pointer (some ⟨p, 0, none⟩), .pointer (some ⟨q, 0, none⟩), .pointer (some ⟨z, 0, none⟩)] w fun e w' => e = .returned (gv (gx (g L[i].da at_) (g Z[i].da at_))) ∧ Below w.heap.size w w' := by
  have hi' : i < n := by rw [← hL.1]; exact hi
  have hi2' : i < n2 := by rw [← hZ.1]; exact hi2
  obtain ⟨b, o, rfl, hb, x0, x1, x2, x3, Ad, nd, cd, c4, hda⟩ := hL.at i hi'
  obtain ⟨b', o', rfl, hb', y0, y1, y2, y3, Ad', nd', cd', d4, hda'⟩ := hZ.at i hi2'
  have hnd := hda.1
  have hnd' := hda'.1
  obtain ⟨bd, od, rfl, hbd, hcd⟩ := hda.atg at_ (by omega)
  obtain ⟨bd', od', rfl, hbd', hcd'⟩ := hda'.atg at_ (by omega)
  have e1 : (i : Int) < (n : Int) := by omega
  have e2 : (i : Int) < (n2 : Int) := by omega
  have e3 : (at_ : Int) < (nd : Int) := by omega
  have e4 : (at_ : Int) < (nd' : Int) := by omega
  generalize g L[i].da at_ = X at *
  generalize g Z[i].da at_ = Y at *
  clear x0 x1 x2 x3 y0 y1 y2 y3 hda hda' hL hZ ha ha2 hnd hnd'
  go_enter Try.func54, Try.ntmps54
  go_wp2_with fail
  go_quiet (fail)
  go_wp2_with fail
  go_ret
  exact ⟨rfl, bdrewN (Below.refl _ _) _⟩
end Go.Proofs.Ytillfbohengpaaa
end
section
set_option linter.unusedVariables false
set_option linter.unusedSimpArgs false
namespace Go.Proofs.Ytillfbohengpaaa
open Go.RowKit Gf Go.Sort Go.Proofs.YtillfbohengpaaaW.PrintWords Go.Proofs.YtillfbohengpaaaW.PrintLast PA
def epN (L : List Sh) : Int := match L with | [] => 0 | a :: _ => a.ep
def mnN (L : List Sh) : Nat := match L with | [] => 0 | a :: _ => a.mn.toNat
def nextSh (s z : Sh) : Sh := ⟨s.ep + 1, s.ix, s.th, s.mn, (List.range s.da.length).map fun at_ => gx (g s.da at_) (g z.da at_)⟩
def zerosR (L : List Sh) (coins : List G) : List Sh := splitTo (List.replicate (dlN L) 0#8) coins 0 (thN L - 1) (mnN L) (mnN L)
def nextTo (L Z : List Sh) (k : Nat) : List Sh := (List.range k).map fun i => nextSh (L.getD i ⟨0, 0, 0, 0, []⟩) (Z.getD i ⟨0, 0, 0, 0, []⟩)
theorem nextTo_succ (L Z : List Sh) (k : Nat) : nextTo L Z (k + 1) = nextTo L Z k ++ [nextSh (L.getD k ⟨0, 0, 0, 0, []⟩) (Z.getD k ⟨0, 0, 0, 0, []⟩)] := by simp [nextTo, List.range_succ]
def refreshE (L : List Sh) (coins : List G) : Int :=
  if checkR L = 0 then (if L.length ≠ mnN L then 80 else if epN L = 1048576 then 81 else if coins.length ≠ dlN L * (thN L - 1) then 1 else 0) else checkR L
def refreshR (L : List Sh) (coins : List G) : List Sh := if refreshE L coins = 0 then nextTo L (zerosR L coins) L.length else []
section
variable (A B : Option Addr) (n c n2 c2 : Nat) (L : List Sh) (r : List G) (w : World)
set_option maxRecDepth 100000 in
set_option maxHeartbeats 2000000 in
theorem refresh_bad1 (hC : Kd.C k52 w A n (L.map sI)) (hck : checkR L ≠ 0) :
    Calls Try.prog 34 #[.slice A n c, .slice B n2 c2] w fun e w' => RetSh e w' w.heap.size (refreshR L r) (refreshE L r) ∧ Below w.heap.size w w' := by
  have hrs := rs_of_C hC
  have hE : refreshE L r = checkR L := by simp [refreshE, hck]
  have hR : refreshR L r = [] := by simp [refreshR, hE, hck]
  rw [hE, hR]
  have HRS := Lib.hid hrs
  have d1 : (checkR L == 0) = false := by simp [hck]
  have d2 : (checkR L != 0) = true := by simp [hck]
  clear hrs hC hE hR hck
  go_enter Try.func34, Try.ntmps34
  go_wp2_with fail
  refine (check_u (HRS.out.below (below_alloc1 _ _))).mono ?_
  rintro e w1 ⟨rfl, hb1⟩
  go_wp2_with fail
  go_ret2
  exact ⟨RetSh.none _ _ _, bthen (below_alloc1 _ _) hb1⟩
end
theorem head_cells {w : World} {A : Option Addr} {n : Nat} {a : Sh} {r : List Sh} (h : RS w A n (a :: r)) (hal : Alike a r) : ∃ b o t m Ad cd, A = some ⟨b, o, none⟩ ∧ b < w.heap.size ∧ a.th = ((t : Nat) : Int) + 1 ∧ a.mn = ((m : Nat) : Int) ∧
    w.cell? ⟨b, o, none⟩ = some (.int .i64 a.ep) ∧ w.cell? ⟨b, o + 2, none⟩ = some (.int .i64 ((t : Int) + 1)) ∧ w.cell? ⟨b, o + 3, none⟩ = some (.int .i64 (m : Int)) ∧ w.cell? ⟨b, o + 4, none⟩ = some (.slice Ad a.da.length cd) ∧ RL gv w Ad a.da.length a.da := by
  obtain ⟨b, o, rfl, hb, hc0⟩ := h.at 0 (by have := h.1; simp at this; omega)
  obtain ⟨x0, x1, x2, x3, Ad, nd, cd, c4, hda⟩ := hc0
  simp only [List.getElem_cons_zero, Nat.zero_mul, Nat.add_zero] at x0 x2 x3 c4 hda
  obtain rfl : nd = a.da.length := hda.1.symm
  obtain ⟨t, ht⟩ : ∃ t : Nat, a.th = (t : Int) + 1 := ⟨(a.th - 1).toNat, by have := hal.t1; omega⟩
  obtain ⟨m, hm⟩ : ∃ m : Nat, a.mn = (m : Int) := ⟨a.mn.toNat, by have := hal.t1; have := hal.t2; omega⟩
  rw [ht] at x2
  rw [hm] at x3
  exact ⟨b, o, t, m, Ad, cd, rfl, hb, ht, hm, x0, x2, x3, c4, hda⟩
set_option maxRecDepth 100000 in
set_option maxHeartbeats 2000000 in
theorem refresh_bad2 (A B : Option Addr) (n c n2 c2 : Nat) (a : Sh) (l : List Sh) (r : List G) (w : World) (hC : Kd.C k52 w A n ((a :: l).map sI)) (hck : checkR (a :: l) = 0) (hal : Alike a l) (hx : n ≠ mnN (a :: l) ∨ epN (a :: l) = 1048576) :
    Calls Try.prog 34 #[.slice A n c, .slice B n2 c2] w fun e w' => RetSh e w' w.heap.size (refreshR (a :: l) r) (refreshE (a :: l) r) ∧ Below w.heap.size w w' := by
  have hrs := rs_of_C hC
  obtain ⟨b, o, t, m, Ad, cd, rfl, hb, ht, hm, x0, x2, x3, c4, hda⟩ := head_cells hrs hal
  have hn := hrs.1
  have hmn : mnN (a :: l) = m := by simp [mnN, hm]
  have hni : (0 : Int) < (n : Int) := by simp at hn; omega
  rw [hmn] at hx
  have HRS := Lib.hid hrs
  by_cases hnm : n = m
  · have hep : a.ep = 1048576 := by rcases hx with h | h; exact absurd hnm h; exact h
    have hE : refreshE (a :: l) r = 81 := by unfold refreshE; rw [if_pos hck, if_neg (by rw [hmn]; omega), if_pos (by exact hep)]
    have hR : refreshR (a :: l) r = [] := by unfold refreshR; rw [hE]; rfl
    rw [hE, hR]
    rw [hep] at x0
    have d1 : ((n : Int) == (m : Int)) = true := by rw [beq_iff_eq]; omega
    have d2 : ((n : Int) != (m : Int)) = false := by rw [bne, d1]; rfl
    have HCK := Lib.hid hck
    clear hrs hC hE hR hck hn hal hep hda hx ht hm hmn hnm
    go_enter Try.func34, Try.ntmps34
    go_wp2_with fail
    refine (check_u (HRS.out.below (below_alloc1 _ _))).mono ?_
    rintro e w1 ⟨rfl, hb1⟩
    rw [HCK.out]
    have hB1 := bthen (below_alloc1 w _) hb1
    have hc1 : w1.cell? ⟨w.heap.size, 0, none⟩ = some (.slice (some ⟨b, o, none⟩) n c) := pw_cell_below hb1 (by rw [cell_new _ _ _ _ _ _ rfl]; rfl)
    replace x0 := pw_cell_below hB1 x0
    replace x3 := pw_cell_below hB1 x3
    clear x2 c4
    go_wp2_with fail
    go_quiet (fail)
    go_wp2_with fail
    go_ret2
    exact ⟨RetSh.none _ _ _, bdrewN hB1 _⟩
  · have hE : refreshE (a :: l) r = 80 := by unfold refreshE; rw [if_pos hck, if_pos (by rw [hmn, hn]; exact hnm)]
    have hR : refreshR (a :: l) r = [] := by unfold refreshR; rw [hE]; rfl
    rw [hE, hR]
    have d1 : ((n : Int) == (m : Int)) = false := by rw [beq_eq_false_iff_ne]; omega
    have d2 : ((n : Int) != (m : Int)) = true := by rw [bne, d1]; rfl
    have HCK := Lib.hid hck
    clear hrs hC hE hR hck hn hal hda hx ht hm hmn hnm
    go_enter Try.func34, Try.ntmps34
    go_wp2_with fail
    refine (check_u (HRS.out.below (below_alloc1 _ _))).mono ?_
    rintro e w1 ⟨rfl, hb1⟩
    rw [HCK.out]
    have hB1 := bthen (below_alloc1 w _) hb1
    have hc1 : w1.cell? ⟨w.heap.size, 0, none⟩ = some (.slice (some ⟨b, o, none⟩) n c) := pw_cell_below hb1 (by rw [cell_new _ _ _ _ _ _ rfl]; rfl)
    replace x3 := pw_cell_below hB1 x3
    clear x2 c4 x0
    go_wp2_with fail
    go_quiet (fail)
    go_wp2_with fail
    go_ret2
    exact ⟨RetSh.none _ _ _, bdrewN hB1 _⟩
theorem skip_step {P : Program} {ops : Array Oper} {o : Oper} {a : Act} {Q : Exit → Act → World → Prop} {Kc : Act → World → Prop} {W w1 : World} (hw : Region.wanted o (yielded ops a.tmps) = true) (hrun : (execOp a.eval o).run P W = .ok .skip w1) (h : Kc (a.put o.dst undef) w1) :
    if Region.wanted o (yielded ops a.tmps) = true then Oper.wp P o a W Kc Q else Kc (a.put o.dst undef) W := by
  rw [if_pos hw]
  unfold Oper.wp
  rw [hrun]
  exact h
theorem split_any (A B : Option Addr) (n c n2 c2 mn m : Nat) (l r : List G) (w : World) (hl : RL gv w A n l) (hr : RL gv w B n2 r) (hc2 : n2 ≤ c2) (hn : n ≤ 64) (hm : m + 1 ≤ mn) (hmn : mn ≤ 8) (hn2 : n2 ≤ 9223372036854775807) :
    Calls Try.prog 25 #[.slice A n c, .int .i64 0, .int .i64 ((m : Int) + 1), .int .i64 (mn : Int), .slice B n2 c2] w fun e w' => RetSh e w' w.heap.size (if n2 = n * m then splitTo l r 0 m mn mn else []) (if n2 = n * m then 0 else 1) ∧ Below w.heap.size w w' := by
  by_cases h : n2 = n * m
  · rw [if_pos h, if_pos h]
    exact split_ok A B n c n2 c2 mn m l r 0 w hl hr hc2 hn hm hmn (by omega) (by omega) h
  · rw [if_neg h, if_neg h]
    refine split_bad A B n c n2 c2 l r 0 _ _ w hl hr (by omega) hn2 1 ?_ (by decide)
    unfold splitErr
    rw [if_neg (by omega), if_neg (by omega), if_neg (by omega), if_pos]
    intro e
    apply h
    have : ((m : Int) + 1 - 1) = (m : Int) := by omega
    rw [this] at e
    have e2 : (n2 : Int) = ((n * m : Nat) : Int) := by rw [e]; simp
    omega
set_option maxRecDepth 100000 in
set_option maxHeartbeats 4000000 in
theorem refresh_rest (A B : Option Addr) (n c n2 c2 : Nat) (a : Sh) (l : List Sh) (r : List G) (w : World) (hC : Kd.C k52 w A n ((a :: l).map sI)) (hcc : n ≤ c) (hr : RL gv w B n2 r) (hc2 : n2 ≤ c2) (hn2 : n2 ≤ 9223372036854775807) (hck : checkR (a :: l) = 0) (hal : Alike a l) (hx : n = mnN (a :: l)) (hy : epN (a :: l) ≠ 1048576) :
    Calls Try.prog 34 #[.slice A n c, .slice B n2 c2] w fun e w' => RetSh e w' w.heap.size (refreshR (a :: l) r) (refreshE (a :: l) r) ∧ Below w.heap.size w w' := by
  have hrs := rs_of_C hC
  obtain ⟨b, o, t, m, Ad, cd, rfl, hb, ht, hm, x0, x2, x3, c4, hda⟩ := head_cells hrs hal
  have hn := hrs.1
  have hmn : mnN (a :: l) = m := by simp [mnN, hm]
  have hni : (0 : Int) < (n : Int) := by simp at hn; omega
  rw [hmn] at hx
  subst hx
  have HCK := Lib.hid hck
  obtain ⟨zl, hzl⟩ : ∃ zl, zl = (if n2 = a.da.length * t then splitTo (List.replicate a.da.length 0#8) r 0 t n n else []) := ⟨_, rfl⟩
  obtain ⟨er, her⟩ : ∃ er : Int, er = (if n2 = a.da.length * t then 0 else 1) := ⟨_, rfl⟩
  have hthn : thN (a :: l) = t + 1 := by simp [thN, ht]
  have hdl : dlN (a :: l) = a.da.length := rfl
  have hE : refreshE (a :: l) r = er := by
    unfold refreshE
    rw [if_pos hck, if_neg (by rw [hmn]; omega), if_neg hy, hthn, hdl, hr.1, her]
    simp only [Nat.add_sub_cancel]
    by_cases h : n2 = a.da.length * t <;> simp [h]
  have hR : refreshR (a :: l) r = if er = 0 then nextTo (a :: l) zl n else [] := by
    unfold refreshR zerosR
    rw [hE, hdl, hthn, hmn, hzl, hn]
    simp only [Nat.add_sub_cancel]
    by_cases h : n2 = a.da.length * t <;> simp [h, her]
  have hzlen : er = 0 → zl.length = n ∧ ∀ s ∈ zl, s.da.length = a.da.length := by
    intro h0
    rw [her] at h0
    by_cases h : n2 = a.da.length * t
    · rw [hzl, if_pos h]
      exact ⟨by simp [splitTo], fun s hs => by
        obtain ⟨j, _, rfl⟩ := List.mem_map.1 hs
        simp [shareG, dataG]⟩
    · rw [if_neg h] at h0; cases h0
  have her1 : er = 0 ∨ er = 1 := by rw [her]; by_cases h : n2 = a.da.length * t <;> simp [h]
  rw [hE, hR]
  have hlen64 := hal.d
  have ht8 : t + 1 ≤ n := by have := hal.t2; omega
  have hm8 : n ≤ 8 := by have := hal.t3; omega
  have hda2 : ∀ s ∈ a :: l, s.da.length = a.da.length := fun s hs => (hal.all s hs).2.2.1
  have hep63 : ∀ s ∈ a :: l, 0 ≤ s.ep ∧ s.ep ≤ 1048576 := by
    obtain ⟨a', r', e, _, hep⟩ := check0 hck
    exact fun s hs => (hep s hs).2
  have HEP := Lib.hid hep63
  have HDA := Lib.hid hda2
  have HZL := Lib.hid hzl
  have HER := Lib.hid her
  have HZN := Lib.hid hzlen
  have HRS := Lib.hid hrs
  have HRC := Lib.hid hr
  have HN := Lib.hid hn
  have hn0 : 0 < n := by omega
  have d1 : ((n : Int) == (n : Int)) = true := by simp
  have d2 : ((n : Int) != (n : Int)) = false := by simp
  have d3 : (a.ep == 1048576) = false := by rw [beq_eq_false_iff_ne]; exact hy
  clear hrs hC hE hR hck hn hal hda ht hm hmn hzl her hzlen hda2 hep63 hthn hdl hr hy
  go_enter Try.func34, Try.ntmps34
  go_wp2_with fail
  refine (check_u (HRS.out.below (below_alloc1 _ _))).mono ?_
  rintro e w1 ⟨rfl, hb1⟩
  rw [HCK.out]
  have hB1 := bthen (below_alloc1 w _) hb1
  have hc1 : w1.cell? ⟨w.heap.size, 0, none⟩ = some (.slice (some ⟨b, o, none⟩) n c) := pw_cell_below hb1 (by rw [cell_new _ _ _ _ _ _ rfl]; rfl)
  replace x0 := pw_cell_below hB1 x0
  replace x2 := pw_cell_below hB1 x2
  replace x3 := pw_cell_below hB1 x3
  replace c4 := pw_cell_below hB1 c4
  go_wp2_with fail
  go_quiet (fail)
  go_wp2_with fail
  generalize hwd : (w1.drewN nq) = wn
  have hbn : Below w1.heap.size w1 wn := by rw [← hwd]; exact bdrewN (Below.refl _ _) _
  clear hwd
  have hBd : Below w1.heap.size w1 wn.drew := below_drew hbn
  have HS : Hid (∀ w', Below w1.heap.size w1 w' → w'.cell? ⟨w.heap.size, 0, none⟩ = some (.slice (some ⟨b, o, none⟩) n c) ∧ w'.cell? ⟨b, o + 2, none⟩ = some (.int .i64 ((t : Int) + 1)) ∧ w'.cell? ⟨b, o + 3, none⟩ = some (.int .i64 (n : Int)) ∧ w'.cell? ⟨b, o + 4, none⟩ = some (.slice Ad a.da.length cd)) :=
    fun w' hb => ⟨pw_cell_below hb hc1, pw_cell_below hb x2, pw_cell_below hb x3, pw_cell_below hb c4⟩
  refine start_ (n := 22) (S := fun w' => w'.cell? ⟨w.heap.size, 0, none⟩ = some (.slice (some ⟨b, o, none⟩) n c) ∧ w'.cell? ⟨b, o + 2, none⟩ = some (.int .i64 ((t : Int) + 1)) ∧ w'.cell? ⟨b, o + 3, none⟩ = some (.int .i64 (n : Int)) ∧ w'.cell? ⟨b, o + 4, none⟩ = some (.slice Ad a.da.length cd)) (ds := []) #[false, false, false, false, false, false, false, false, false, false, false, false, false, false, false, false, false, false, false, false, false, false] (by kernel_rfl) rfl rfl (HS.out _ hBd) (fun hHeld => ?_)
  generalize wn.drew = wd at *
  refine take_ (i := 0) (N := some 27) (v := ?_) (a' := ?_) #[true, false, false, false, false, false, false, false, false, false, false, false, false, false, false, false, false, false, false, false, false, false] rfl rfl (by kernel_rfl) (fun _ _ _ h => h) (Or.inl ⟨by rfl, ?_⟩) hHeld ?_ ?_
  rotate_left
  · intro w' hs
    obtain ⟨s1, s2, s3, s4⟩ := hs; go_simp
    with_reducible rfl
  rotate_left
  · simp only [Act.put, List.setIfInBounds_toArray, List.set_cons_zero, List.set_cons_succ]
    rfl
  refine pure_ (i := 1) (N := some 28) (v := ?_) (a' := ?_) #[true, true, false, false, false, false, false, false, false, false, false, false, false, false, false, false, false, false, false, false, false, false] rfl rfl (by kernel_rfl) (fun _ _ _ h => h) (Or.inl ⟨by rfl, ?_⟩) ?_ ?_
  rotate_left
  · intro w'
    go_simp
    with_reducible rfl
  rotate_left
  · simp only [Act.put, List.setIfInBounds_toArray, List.set_cons_zero, List.set_cons_succ]
    rfl
  refine pure_ (i := 2) (N := some 29) (v := ?_) (a' := ?_) #[true, true, true, false, false, false, false, false, false, false, false, false, false, false, false, false, false, false, false, false, false, false] rfl rfl (by kernel_rfl) (fun _ _ _ h => h) (Or.inl ⟨by rfl, ?_⟩) ?_ ?_
  rotate_left
  · intro w'
    go_simp
    with_reducible rfl
  rotate_left
  · simp only [Act.put, List.setIfInBounds_toArray, List.set_cons_zero, List.set_cons_succ]
    rfl
  refine take_ (i := 3) (N := some 30) (v := ?_) (a' := ?_) #[true, true, true, true, false, false, false, false, false, false, false, false, false, false, false, false, false, false, false, false, false, false] rfl rfl (by kernel_rfl) (fun _ _ _ h => h) (Or.inl ⟨by rfl, ?_⟩) hHeld ?_ ?_
  rotate_left
  · intro w' hs
    obtain ⟨s1, s2, s3, s4⟩ := hs; go_simp
    with_reducible rfl
  rotate_left
  · simp only [Act.put, List.setIfInBounds_toArray, List.set_cons_zero, List.set_cons_succ]
    rfl
  refine pure_ (i := 4) (N := some 31) (v := ?_) (a' := ?_) #[true, true, true, true, true, false, false, false, false, false, false, false, false, false, false, false, false, false, false, false, false, false] rfl rfl (by kernel_rfl) (fun _ _ _ h => h) (Or.inl ⟨by rfl, ?_⟩) ?_ ?_
  rotate_left
  · intro w'
    go_simp
    with_reducible rfl
  rotate_left
  · simp only [Act.put, List.setIfInBounds_toArray, List.set_cons_zero, List.set_cons_succ]
    rfl
  refine take_ (i := 6) (N := some 33) (v := ?_) (a' := ?_) #[true, true, true, true, true, false, true, false, false, false, false, false, false, false, false, false, false, false, false, false, false, false] rfl rfl (by kernel_rfl) (fun _ _ _ h => h) (Or.inl ⟨by rfl, ?_⟩) hHeld ?_ ?_
  rotate_left
  · intro w' hs
    obtain ⟨s1, s2, s3, s4⟩ := hs; go_simp
    with_reducible rfl
  rotate_left
  · simp only [Act.put, List.setIfInBounds_toArray, List.set_cons_zero, List.set_cons_succ]
    rfl
  refine pure_ (i := 7) (N := some 34) (v := ?_) (a' := ?_) #[true, true, true, true, true, false, true, true, false, false, false, false, false, false, false, false, false, false, false, false, false, false] rfl rfl (by kernel_rfl) (fun _ _ _ h => h) (Or.inl ⟨by rfl, ?_⟩) ?_ ?_
  rotate_left
  · intro w'
    go_simp
    with_reducible rfl
  rotate_left
  · simp only [Act.put, List.setIfInBounds_toArray, List.set_cons_zero, List.set_cons_succ]
    rfl
  refine pure_ (i := 8) (N := some 35) (v := ?_) (a' := ?_) #[true, true, true, true, true, false, true, true, true, false, false, false, false, false, false, false, false, false, false, false, false, false] rfl rfl (by kernel_rfl) (fun _ _ _ h => h) (Or.inl ⟨by rfl, ?_⟩) ?_ ?_
  rotate_left
  · intro w'
    go_simp
    with_reducible rfl
  rotate_left
  · simp only [Act.put, List.setIfInBounds_toArray, List.set_cons_zero, List.set_cons_succ]
    rfl
  refine take_ (i := 9) (N := some 36) (v := ?_) (a' := ?_) #[true, true, true, true, true, false, true, true, true, true, false, false, false, false, false, false, false, false, false, false, false, false] rfl rfl (by kernel_rfl) (fun _ _ _ h => h) (Or.inl ⟨by rfl, ?_⟩) hHeld ?_ ?_
  rotate_left
  · intro w' hs
    obtain ⟨s1, s2, s3, s4⟩ := hs; go_simp
    with_reducible rfl
  rotate_left
  · simp only [Act.put, List.setIfInBounds_toArray, List.set_cons_zero, List.set_cons_succ]
    rfl
  refine take_ (i := 10) (N := some 37) (v := ?_) (a' := ?_) #[true, true, true, true, true, false, true, true, true, true, true, false, false, false, false, false, false, false, false, false, false, false] rfl rfl (by kernel_rfl) (fun _ _ _ h => h) (Or.inl ⟨by rfl, ?_⟩) hHeld ?_ ?_
  rotate_left
  · intro w' hs
    obtain ⟨s1, s2, s3, s4⟩ := hs; go_simp
    with_reducible rfl
  rotate_left
  · simp only [Act.put, List.setIfInBounds_toArray, List.set_cons_zero, List.set_cons_succ]
    rfl
  refine pure_ (i := 11) (N := some 38) (v := ?_) (a' := ?_) #[true, true, true, true, true, false, true, true, true, true, true, true, false, false, false, false, false, false, false, false, false, false] rfl rfl (by kernel_rfl) (fun _ _ _ h => h) (Or.inl ⟨by rfl, ?_⟩) ?_ ?_
  rotate_left
  · intro w'
    go_simp
    with_reducible rfl
  rotate_left
  · simp only [Act.put, List.setIfInBounds_toArray, List.set_cons_zero, List.set_cons_succ]
    rfl
  refine pure_ (i := 12) (N := some 39) (v := ?_) (a' := ?_) #[true, true, true, true, true, false, true, true, true, true, true, true, true, false, false, false, false, false, false, false, false, false] rfl rfl (by kernel_rfl) (fun _ _ _ h => h) (Or.inl ⟨by rfl, ?_⟩) ?_ ?_
  rotate_left
  · intro w'
    go_simp
    with_reducible rfl
  rotate_left
  · simp only [Act.put, List.setIfInBounds_toArray, List.set_cons_zero, List.set_cons_succ]
    rfl
  refine take_ (i := 13) (N := some 40) (v := ?_) (a' := ?_) #[true, true, true, true, true, false, true, true, true, true, true, true, true, true, false, false, false, false, false, false, false, false] rfl rfl (by kernel_rfl) (fun _ _ _ h => h) (Or.inl ⟨by rfl, ?_⟩) hHeld ?_ ?_
  rotate_left
  · intro w' hs
    obtain ⟨s1, s2, s3, s4⟩ := hs; go_simp
    with_reducible rfl
  rotate_left
  · simp only [Act.put, List.setIfInBounds_toArray, List.set_cons_zero, List.set_cons_succ]
    rfl
  refine pure_ (i := 14) (N := some 41) (v := ?_) (a' := ?_) #[true, true, true, true, true, false, true, true, true, true, true, true, true, true, true, false, false, false, false, false, false, false] rfl rfl (by kernel_rfl) (fun _ _ _ h => h) (Or.inl ⟨by rfl, ?_⟩) ?_ ?_
  rotate_left
  · intro w'
    go_simp
    with_reducible rfl
  rotate_left
  · simp only [Act.put, List.setIfInBounds_toArray, List.set_cons_zero, List.set_cons_succ]
    rfl
  refine join_ (σ := (Option Addr × Nat) × Value × Nat) 2 #[true, true, true, true, true, true, true, true, true, true, true, true, true, true, true, true, true, true, true, true, false, false] (fun s => [(32, .slice s.1.1 a.da.length s.1.2), (42, .tuple #[s.2.1, .int .i64 er]), (26, .tuple #[s.2.1, .int .i64 er]), (43, s.2.1), (44, .int .i64 er), (6, .pointer (some ⟨s.2.2, 0, none⟩))])
    (fun s W1 => Kd.S k52 52 W1 w1.heap.size (fun _ => True) s.2.1 (zl.map sI) ∧ W1.heap[s.2.2]? = some (.cells #[.slice none 0 0] 37 (0, 0)) ∧ w1.heap.size ≤ s.2.2 ∧ Below w1.heap.size w1 W1) ?_ (fun hJ => ?_)
  · rintro ⟨⟨ZA, ZC⟩, zv, p6⟩ W1 ⟨hZ, hp6, hp6b, hBW⟩
    dsimp only at hZ hp6 hp6b hBW ⊢
    obtain ⟨VA, VC, rfl, hzc, hZC⟩ := Kd.S_reads hZ
    rw [List.length_map] at hZC hzc
    refine norm_ (a' := ?_) ?_ ?_
    rotate_left
    · simp only [putAll, List.foldl, Act.put, List.setIfInBounds_toArray, List.set_cons_zero, List.set_cons_succ, List.length_map]
      rfl
    have hp6c : W1.cell? ⟨p6, 0, none⟩ = some (.slice none 0 0) := by rw [blk_cell hp6]; rfl
    have hp6f : W1.frozen? ⟨p6, 0, none⟩ = false := blk_frozen hp6 0
    have hset : Below w1.heap.size w1 (W1.setCell ⟨p6, 0, none⟩ (.slice VA zl.length VC)) := hBW.setCell hp6b _
    refine one_ (i := 20) (N := none) #[true, true, true, true, true, true, true, true, true, true, true, true, true, true, true, true, true, true, true, true, true, false] rfl rfl (by kernel_rfl) (by decide) (fun K hK => ?_)
    refine skip_step (w1 := W1.setCell ⟨p6, 0, none⟩ (.slice VA zl.length VC)) (by rfl) (by first | (go_simp; done) | (go_simp; rfl)) ?_
    refine hK.out _ _ (HS.out _ hset) (fun _ => ?_)
    clear hK K
    refine norm_ (a' := ?_) ?_ ?_
    rotate_left
    · simp only [Act.put]
      rfl
    refine pure_ (i := 21) (N := some 5) (v := ?_) (a' := ?_) #[true, true, true, true, true, true, true, true, true, true, true, true, true, true, true, true, true, true, true, true, true, true] rfl rfl (by kernel_rfl) (fun _ _ _ h => h) (Or.inl ⟨by rfl, ?_⟩) ?_ ?_
    rotate_left
    · intro w'
      go_simp
      with_reducible rfl
    rotate_left
    · simp only [Act.put, List.setIfInBounds_toArray, List.set_cons_zero, List.set_cons_succ]
      rfl
    refine done_ (by kernel_rfl) ?_
    have hz2 := Kd.S_set hZ hp6 (by decide) 0 (.slice VA zl.length VC)
    have hq6 := blk_set hp6 0 (.slice VA zl.length VC)
    generalize W1.setCell ⟨p6, 0, none⟩ (.slice VA zl.length VC) = W2 at *
    clear hZ hp6 hp6c hp6f hZC hHeld hBW
    have HZ2 := Lib.hid hz2
    have HQ6 := Lib.hid hq6
    clear hz2 hq6
    obtain ⟨k1, k2, k3, k4⟩ := HS.out _ hset
    have hBW := bthenB hB1 hB1.size hset
    rcases her1 with rfl | rfl
    case inr =>
      go_wp2_with fail
      go_ret2
      exact ⟨RetSh.none _ _ _, hBW⟩
    case inl =>
      have k6 : W2.cell? ⟨p6, 0, none⟩ = some (.slice VA zl.length VC) := by rw [blk_cell HQ6.out]; rfl
      obtain ⟨hzn, hzd⟩ := HZN.out rfl
      have HZD := Lib.hid hzd
      have HZN2 := Lib.hid hzn
      have HZR : Hid (RS W2 VA zl.length zl) := by
        have := (Kd.S_reads' HZ2.out).2.2
        rw [List.length_map] at this
        exact rs_of_C this
      have hRS2 := Lib.hid (HRS.out.below hBW)
      clear hzn hzd
      go_wp2_with fail
      go_loopw [4, 50] (fun v4 v50 wr => ∃ (k : Nat), k ≤ n ∧ v50 = .int .i64 (k : Int) ∧ Kd.S k52 52 wr W2.heap.size (fun _ => True) v4 ((nextTo (a :: l) zl k).map sI) ∧ Below W2.heap.size W2 wr) (fun _ v50 _ => n - (intOf v50).toNat)
      case atStart => exact ⟨0, by omega, rfl, Kd.S_nil _ _ _ _ _, Below.refl _ _⟩
      case round =>
        obtain ⟨k, hk, rfl, hS, hBr⟩ := hrel
        by_cases hlt : k < n
        · have hRSr := hRS2.out.below hBr
          obtain ⟨b', o', he, hb', hcs⟩ := hRSr.at k hlt
          obtain ⟨rfl, rfl⟩ : b' = b ∧ o' = o := by injection he with he; injection he with e1 e2; exact ⟨e1.symm, e2.symm⟩
          clear he
          have hkl : k < (a :: l).length := by rw [HN.out]; exact hlt
          have hepk := HEP.out _ (List.getElem_mem hkl)
          have hdak := HDA.out _ (List.getElem_mem hkl)
          have hget : (a :: l).getD k ⟨0, 0, 0, 0, []⟩ = (a :: l)[k] := by rw [List.getD_eq_getElem?_getD, List.getElem?_eq_getElem hkl]; rfl
          have hkz : k < zl.length := by rw [HZN2.out]; exact hlt
          have hgetz : zl.getD k ⟨0, 0, 0, 0, []⟩ = zl[k] := by rw [List.getD_eq_getElem?_getD, List.getElem?_eq_getElem hkz]; rfl
          have hdaz := HZD.out _ (List.getElem_mem hkz)
          generalize hs : (a :: l)[k] = s at hcs hepk hdak hget
          have HS2 := Lib.hid hs; clear hs
          have HG := Lib.hid hget
          have HGZ := Lib.hid hgetz
          have HDZ := Lib.hid hdaz
          have HDK := Lib.hid hdak
          clear hget hgetz hdaz hdak
          obtain ⟨e0, e1, e2, e3, As, ns, cs, e4, hds⟩ := hcs
          obtain ⟨hep0, hep1⟩ := hepk
          have hnsl := hds.1
          have HNS := Lib.hid hnsl
          have hns64 : ns ≤ 64 := by have := HDK.out; omega
          clear hnsl hds
          have hlt2 : (k : Int) < (n : Int) := by omega
          have k1r := pw_cell_below hBr k1
          have k6r := pw_cell_below hBr k6
          have hzw : w.heap.size < wr.heap.size := World.block_lt_of_cell? _ _ k1r
          have hzp : p6 < wr.heap.size := World.block_lt_of_cell? _ _ k6r
          go_wp2_with fail
          have hW : ∀ y : World, y = (wr.alloc (.cells #[.int .i64 (k : Int)] 3)).alloc (.cells #[.int .i64 (s.ep + 1), .int .i64 s.ix, .int .i64 s.th, .int .i64 s.mn, .slice As ns cs] 52) →
              Below wr.heap.size wr y ∧ y.cell? ⟨wr.heap.size, 0, none⟩ = some (.int .i64 (k : Int)) ∧ y.heap[wr.heap.size + 1]? = some (.cells #[.int .i64 (s.ep + 1), .int .i64 s.ix, .int .i64 s.th, .int .i64 s.mn, .slice As ns cs] 52 (0, 0)) := by
            rintro y rfl
            refine ⟨balloc (below_alloc1 _ _) _, ?_, ?_⟩
            · rw [cell_old _ _ _ (by simp), cell_new _ _ _ _ _ _ rfl]; rfl
            · have := heap_alloc_new (wr.alloc (.cells #[.int .i64 (k : Int)] 3)) (.cells #[.int .i64 (s.ep + 1), .int .i64 s.ix, .int .i64 s.th, .int .i64 s.mn, .slice As ns cs] 52)
              simpa using this
          generalize hW3 : (wr.alloc (.cells #[.int .i64 (k : Int)] 3)).alloc (.cells #[.int .i64 (s.ep + 1), .int .i64 s.ix, .int .i64 s.th, .int .i64 s.mn, .slice As ns cs] 52) = W3
          obtain ⟨hb3, hq3, hq8⟩ := hW W3 hW3.symm
          clear hW hW3
          refine (columns_u8 54 _ ns (fun at_ => gx (g s.da at_) (g zl[k].da at_)) W3 (by omega) (callf Try.func54 (by kernel_rfl) rfl) (fun at_ W hat hBW3 => ?_)).mono ?_
          · have hBx := bthen hBr (bthen hb3 hBW3)
            have := refresh1_u _ _ _ (some ⟨b', o', none⟩) VA n c zl.length VC k (a :: l) zl at_ W (pw_cell_below (bthen hb3 hBW3) k1r) (pw_cell_below hBW3 hq3) (pw_cell_below (bthen hb3 hBW3) k6r) (hRS2.out.below hBx) (HZR.out.below hBx) hkl hkz (by rw [HS2.out, HNS.out]; exact hat) (by rw [HDZ.out, ← HDK.out, HNS.out]; exact hat)
            rw [HS2.out] at this
            exact this
          rintro e w4 ⟨dv, rfl, hod, hb4⟩
          obtain ⟨DA, DC, rfl, _⟩ := hod.any
          have hB4 := bthen hBr (bthen hb3 hb4)
          have hS4 := Kd.S_elder' (Kd.S_below (Kd.S_elderB hS (wr.heap.size + 1) (by omega)) hb3) (fun k hk => (hod.lt k hk).1) hb4
          have hub : ∀ k_, u4.ownBlock = some k_ → k_ < wr.heap.size := Kd.S_lt hS
          have hq84 := (hb4.block _ (blk_lt hq8)).trans hq8
          have hc84 : w4.cell? ⟨wr.heap.size + 1, 4, none⟩ = some (.slice As ns cs) := by rw [blk_cell hq84]; rfl
          have hf84 : w4.frozen? ⟨wr.heap.size + 1, 4, none⟩ = false := blk_frozen hq84 4
          go_upto_region 16 with (fail)
          have hq85 := blk_set hq84 4 (.slice DA ns DC)
          have hdb : ∀ k_, (Value.slice DA ns DC).ownBlock = some k_ → wr.heap.size + 1 < k_ := fun k_ hk => by
            have h1 := (hod.lt k_ hk).1
            have h2 := blk_lt hq8
            omega
          have hS5 := Kd.S_far (p := ⟨wr.heap.size + 1, 4, none⟩) hS4 (fun k_ hk => hk.1.2) (.slice DA ns DC)
          have hod5 := hod.setOther ⟨wr.heap.size + 1, 4, none⟩ (.slice DA ns DC) (fun e => by have := hdb _ e; dsimp only at this; omega)
          have hb34 := bthen hb3 hb4
          have hb5 : Below wr.heap.size wr (w4.setCell ⟨wr.heap.size + 1, 4, none⟩ (.slice DA ns DC)) := hb34.setCell (by dsimp only; omega) _
          generalize w4.setCell ⟨wr.heap.size + 1, 4, none⟩ (.slice DA ns DC) = w5 at *
          have f0 : w5.cell? ⟨wr.heap.size + 1, 0, none⟩ = some (.int .i64 (s.ep + 1)) := by rw [blk_cell hq85]; rfl
          have f1 : w5.cell? ⟨wr.heap.size + 1, 1, none⟩ = some (.int .i64 s.ix) := by rw [blk_cell hq85]; rfl
          have f2 : w5.cell? ⟨wr.heap.size + 1, 2, none⟩ = some (.int .i64 s.th) := by rw [blk_cell hq85]; rfl
          have f3 : w5.cell? ⟨wr.heap.size + 1, 3, none⟩ = some (.int .i64 s.mn) := by rw [blk_cell hq85]; rfl
          have f4 : w5.cell? ⟨wr.heap.size + 1, 4, none⟩ = some (.slice DA ns DC) := by rw [blk_cell hq85]; rfl
          have hB5 := bthen hBr hb5
          have hM : k52.M w5 W2.heap.size (fun k_ => some k_ = (Value.slice DA ns DC).ownBlock) (sI (nextSh s zl[k])) [.int .i64 (s.ep + 1), .int .i64 s.ix, .int .i64 s.th, .int .i64 s.mn, .slice DA ns DC] := by
            refine k52_mkM _ _ _ (sI (nextSh s zl[k])) (R_of_own (E := 5) (n := ns) ?_ (fun _ h => h.symm))
            show OwnL gv 5 w5 W2.heap.size _ ns ((List.range s.da.length).map fun at_ => gx (g s.da at_) (g zl[k].da at_))
            rw [HNS.out]
            exact hod5.rebase (bthen hBr hb3).size
          have HM := Lib.hid hM
          have HAP : Hid (∀ k_, some k_ = (Value.slice DA ns DC).ownBlock → True ∧ some k_ ≠ u4.ownBlock) := fun k_ hk => ⟨trivial, fun e => by
            have h1 := hdb k_ hk.symm
            have h2 := hub k_ e.symm
            omega⟩
          have HS5 := Lib.hid (Kd.S_mono hS5 (ok' := fun k_ => True ∧ ¬ some k_ = (Value.slice DA ns DC).ownBlock) (fun _ h => ⟨trivial, h.2⟩))
          have hlen : ((nextTo (a :: l) zl k).map sI).length = k := by simp [nextTo]
          have HLEN := Lib.hid hlen
          clear hM hS5 hS4 hod hod5 hub hdb hq84 hq85 hc84 hf84 hlen hS hq3 hq8
          go_wp2_with (at_builtin; refine Kd.S_append k52 (w0 := W2) W2.heap.size rfl (.tmp 68) (.tmp 70) 37 52 (.agg #[(.int .i64 0), (.int .i64 0), (.int .i64 0), (.int .i64 0), (.slice none 0 0)]) 56 rfl slice_sh Try.info52 rfl (by decide) (by omega) u4 ((nextTo (a :: l) zl k).map sI) (sI (nextSh s zl[k])) [.int .i64 (s.ep + 1), .int .i64 s.ix, .int .i64 s.th, .int .i64 s.mn, .slice DA ns DC] (fun _ => True) (fun k_ => some k_ = (Value.slice DA ns DC).ownBlock) rfl rfl HM.out HAP.out (fun _ _ => trivial) HS5.out hB5 hB5.size (by rw [HLEN.out]; omega) ?_; intro v6 w6 hS6 hB6 hg6 hat6; have HS6 := Lib.hid hS6; clear hS6)
          refine ⟨⟨k + 1, by omega, by go_num, ?_, hB6⟩, by simp [intOf]; omega⟩
          rw [nextTo_succ, List.map_append, HG.out, HGZ.out]
          exact HS6.out
        · obtain rfl : k = n := by omega
          go_wp2_with fail
          go_ret2
          exact ⟨⟨_, rfl, Kd.S_lower hS hBW.size⟩, bthen hBW hBr⟩
  refine two_ (i := 5) (j := 19) (Ni := some 32) (Nj := some 6) #[true, true, true, true, true, true, true, true, true, true, true, true, true, true, true, false, false, false, false, false, false, false] #[true, true, true, true, true, false, true, true, true, true, true, true, true, true, true, false, false, false, false, true, false, false] rfl rfl rfl rfl (by kernel_rfl) (by decide) (by decide) (fun K hK => ?_) (fun K hK => ?_)
  · refine Kd.R_make_step (Kd.int .u8) (w0 := w1) w1.heap.size 5 (by rfl) (N := 32) rfl 30 (.tmp 31) (.tmp 31) rfl (a.da.length : Int) rfl rfl slice_u8 (.int .u8 0) 1 Try.info5 rfl (by decide) (by decide) (0 : Int) (ok := fun _ => True) (okp := fun _ => True) rfl (fun _ h => h) trivial (by omega) (by simp; omega) hBd hBd.size ?_
    intro v1 w2 hR2 hb2 hg2 _
    rw [show ((a.da.length : Int)).toNat = a.da.length from by simp, show List.replicate a.da.length (0 : Int) = (List.replicate a.da.length 0#8).map tI from by simp [List.map_replicate, tI]] at hR2
    have hO2 := own_of_R hR2
    rw [List.length_replicate] at hO2
    obtain ⟨ZA, ZC, rfl, hzr⟩ := hO2.rl
    refine hK.out _ _ (HS.out _ hb2) (fun _ => ?_)
    clear hK K
    refine norm_ (a' := ?_) ?_ ?_
    rotate_left
    · show Act.put _ (some 32) _ = _
      simp only [Act.put, List.setIfInBounds_toArray, List.set_cons_zero, List.set_cons_succ]
      rfl
    refine two_ (i := 15) (j := 19) (Ni := some 42) (Nj := some 6) #[true, true, true, true, true, true, true, true, true, true, true, true, true, true, true, true, false, false, false, false, false, false] #[true, true, true, true, true, true, true, true, true, true, true, true, true, true, true, false, false, false, false, true, false, false] rfl rfl rfl rfl (by kernel_rfl) (by decide) (by decide) (fun K hK => ?_) (fun K hK => ?_)
    · refine goes_ Try.func25 (by kernel_rfl) rfl #[.slice ZA a.da.length ZC, .int .i64 0, .int .i64 ((t : Int) + 1), .int .i64 (n : Int), .slice B n2 c2] (by rfl) rfl rfl (by simp [Act.eval]) ?_
      have hsa := fun W hz hr => split_any ZA B a.da.length ZC n2 c2 n t (List.replicate a.da.length 0#8) r W hz hr hc2 hlen64 ht8 hm8 hn2
      simp only [← HZL.out, ← HER.out] at hsa
      refine (hsa _ hzr (HRC.out.below (bthen hB1 hb2))).mono ?_
      clear hsa
      rintro e w3 ⟨⟨zv, rfl, hZ⟩, hb3⟩
      refine ⟨_, rfl, ?_⟩
      have hb13 := bthen hb2 hb3
      refine hK.out _ _ (HS.out _ hb13) (fun _ => ?_)
      clear hK K
      refine norm_ (a' := ?_) ?_ ?_
      rotate_left
      · show Act.put _ (some 42) _ = _
        simp only [Act.put, List.setIfInBounds_toArray, List.set_cons_zero, List.set_cons_succ]
        rfl
      refine pure_ (i := 16) (N := some 26) (v := ?_) (a' := ?_) #[true, true, true, true, true, true, true, true, true, true, true, true, true, true, true, true, true, false, false, false, false, false] rfl rfl (by kernel_rfl) (fun _ _ _ h => h) (Or.inl ⟨by rfl, ?_⟩) ?_ ?_
      rotate_left
      · intro w'
        go_simp
        with_reducible rfl
      rotate_left
      · simp only [Act.put, List.setIfInBounds_toArray, List.set_cons_zero, List.set_cons_succ]
        rfl
      refine pure_ (i := 17) (N := some 43) (v := ?_) (a' := ?_) #[true, true, true, true, true, true, true, true, true, true, true, true, true, true, true, true, true, true, false, false, false, false] rfl rfl (by kernel_rfl) (fun _ _ _ h => h) (Or.inl ⟨by rfl, ?_⟩) ?_ ?_
      rotate_left
      · intro w'
        go_simp
        with_reducible rfl
      rotate_left
      · simp only [Act.put, List.setIfInBounds_toArray, List.set_cons_zero, List.set_cons_succ]
        rfl
      refine pure_ (i := 18) (N := some 44) (v := ?_) (a' := ?_) #[true, true, true, true, true, true, true, true, true, true, true, true, true, true, true, true, true, true, true, false, false, false] rfl rfl (by kernel_rfl) (fun _ _ _ h => h) (Or.inl ⟨by rfl, ?_⟩) ?_ ?_
      rotate_left
      · intro w'
        go_simp
        with_reducible rfl
      rotate_left
      · simp only [Act.put, List.setIfInBounds_toArray, List.set_cons_zero, List.set_cons_succ]
        rfl
      refine one_ (i := 19) (N := some 6) #[true, true, true, true, true, true, true, true, true, true, true, true, true, true, true, true, true, true, true, true, false, false] rfl rfl (by kernel_rfl) (by decide) (fun K hK => ?_)
      refine box_step (by rfl) (N := 6) rfl (cs := #[.slice none 0 0]) (t := 37) (by first | (go_simp; done) | (go_simp; rfl)) ?_
      intro g6 hg6 w4 hblk hb4
      have hb14 := bthen hb13 hb4
      refine hK.out _ _ (HS.out _ hb14) (fun _ => ?_)
      clear hK K
      refine norm_ (a' := ?_) ?_ ?_
      rotate_left
      · show Act.put _ (some 6) _ = _
        simp only [Act.put, List.setIfInBounds_toArray, List.set_cons_zero, List.set_cons_succ]
        rfl
      exact hJ ((ZA, ZC), zv, g6) w4 ⟨Kd.S_lower (Kd.S_below hZ hb4) hb2.size, hblk, by rw [hg6]; exact hb13.size, hb14⟩
    · refine box_step (by rfl) (N := 6) rfl (cs := #[.slice none 0 0]) (t := 37) (by first | (go_simp; done) | (go_simp; rfl)) ?_
      intro g6 hg6 w4 hblk hb4
      have hb14 := bthen hb2 hb4
      refine hK.out _ _ (HS.out _ hb14) (fun _ => ?_)
      clear hK K
      refine norm_ (a' := ?_) ?_ ?_
      rotate_left
      · show Act.put _ (some 6) _ = _
        simp only [Act.put, List.setIfInBounds_toArray, List.set_cons_zero, List.set_cons_succ]
        rfl
      refine one_ (i := 15) (N := some 42) #[true, true, true, true, true, true, true, true, true, true, true, true, true, true, true, true, false, false, false, true, false, false] rfl rfl (by kernel_rfl) (by decide) (fun K hK => ?_)
      refine goes_ Try.func25 (by kernel_rfl) rfl #[.slice ZA a.da.length ZC, .int .i64 0, .int .i64 ((t : Int) + 1), .int .i64 (n : Int), .slice B n2 c2] (by rfl) rfl rfl (by simp [Act.eval]) ?_
      have hsa := fun W hz hr => split_any ZA B a.da.length ZC n2 c2 n t (List.replicate a.da.length 0#8) r W hz hr hc2 hlen64 ht8 hm8 hn2
      simp only [← HZL.out, ← HER.out] at hsa
      refine (hsa _ (hzr.below hb4) (HRC.out.below (bthen hB1 hb14))).mono ?_
      clear hsa
      rintro e w3 ⟨⟨zv, rfl, hZ⟩, hb3⟩
      refine ⟨_, rfl, ?_⟩
      have hb13 := bthen hb14 hb3
      refine hK.out _ _ (HS.out _ hb13) (fun _ => ?_)
      clear hK K
      refine norm_ (a' := ?_) ?_ ?_
      rotate_left
      · show Act.put _ (some 42) _ = _
        simp only [Act.put, List.setIfInBounds_toArray, List.set_cons_zero, List.set_cons_succ]
        rfl
      refine pure_ (i := 16) (N := some 26) (v := ?_) (a' := ?_) #[true, true, true, true, true, true, true, true, true, true, true, true, true, true, true, true, true, false, false, true, false, false] rfl rfl (by kernel_rfl) (fun _ _ _ h => h) (Or.inl ⟨by rfl, ?_⟩) ?_ ?_
      rotate_left
      · intro w'
        go_simp
        with_reducible rfl
      rotate_left
      · simp only [Act.put, List.setIfInBounds_toArray, List.set_cons_zero, List.set_cons_succ]
        rfl
      refine pure_ (i := 17) (N := some 43) (v := ?_) (a' := ?_) #[true, true, true, true, true, true, true, true, true, true, true, true, true, true, true, true, true, true, false, true, false, false] rfl rfl (by kernel_rfl) (fun _ _ _ h => h) (Or.inl ⟨by rfl, ?_⟩) ?_ ?_
      rotate_left
      · intro w'
        go_simp
        with_reducible rfl
      rotate_left
      · simp only [Act.put, List.setIfInBounds_toArray, List.set_cons_zero, List.set_cons_succ]
        rfl
      refine pure_ (i := 18) (N := some 44) (v := ?_) (a' := ?_) #[true, true, true, true, true, true, true, true, true, true, true, true, true, true, true, true, true, true, true, true, false, false] rfl rfl (by kernel_rfl) (fun _ _ _ h => h) (Or.inl ⟨by rfl, ?_⟩) ?_ ?_
      rotate_left
      · intro w'
        go_simp
        with_reducible rfl
      rotate_left
      · simp only [Act.put, List.setIfInBounds_toArray, List.set_cons_zero, List.set_cons_succ]
        rfl
      exact hJ ((ZA, ZC), zv, g6) w3 ⟨Kd.S_lower hZ hb14.size, (hb3.block _ (blk_lt hblk)).trans hblk, by rw [hg6]; exact hb2.size, hb13⟩
  · refine box_step (by rfl) (N := 6) rfl (cs := #[.slice none 0 0]) (t := 37) (by first | (go_simp; done) | (go_simp; rfl)) ?_
    intro g6 hg6 w4 hblk hb4
    have hb14 := bthen hBd hb4
    refine hK.out _ _ (HS.out _ hb14) (fun _ => ?_)
    clear hK K
    refine norm_ (a' := ?_) ?_ ?_
    rotate_left
    · show Act.put _ (some 6) _ = _
      simp only [Act.put, List.setIfInBounds_toArray, List.set_cons_zero, List.set_cons_succ]
      rfl
    refine one_ (i := 5) (N := some 32) #[true, true, true, true, true, true, true, true, true, true, true, true, true, true, true, false, false, false, false, true, false, false] rfl rfl (by kernel_rfl) (by decide) (fun K hK => ?_)
    refine Kd.R_make_step (Kd.int .u8) (w0 := w1) w1.heap.size 5 (by rfl) (N := 32) rfl 30 (.tmp 31) (.tmp 31) rfl (a.da.length : Int) rfl rfl slice_u8 (.int .u8 0) 1 Try.info5 rfl (by decide) (by decide) (0 : Int) (ok := fun _ => True) (okp := fun _ => True) rfl (fun _ h => h) trivial (by omega) (by simp; omega) hb14 hb14.size ?_
    intro v1 w2 hR2 hb2 hg2 _
    rw [show ((a.da.length : Int)).toNat = a.da.length from by simp, show List.replicate a.da.length (0 : Int) = (List.replicate a.da.length 0#8).map tI from by simp [List.map_replicate, tI]] at hR2
    have hO2 := own_of_R hR2
    rw [List.length_replicate] at hO2
    obtain ⟨ZA, ZC, rfl, hzr⟩ := hO2.rl
    refine hK.out _ _ (HS.out _ hb2) (fun _ => ?_)
    clear hK K
    refine norm_ (a' := ?_) ?_ ?_
    rotate_left
    · show Act.put _ (some 32) _ = _
      simp only [Act.put, List.setIfInBounds_toArray, List.set_cons_zero, List.set_cons_succ]
      rfl
    refine one_ (i := 15) (N := some 42) #[true, true, true, true, true, true, true, true, true, true, true, true, true, true, true, true, false, false, false, true, false, false] rfl rfl (by kernel_rfl) (by decide) (fun K hK => ?_)
    refine goes_ Try.func25 (by kernel_rfl) rfl #[.slice ZA a.da.length ZC, .int .i64 0, .int .i64 ((t : Int) + 1), .int .i64 (n : Int), .slice B n2 c2] (by rfl) rfl rfl (by simp [Act.eval]) ?_
    have hsa := fun W hz hr => split_any ZA B a.da.length ZC n2 c2 n t (List.replicate a.da.length 0#8) r W hz hr hc2 hlen64 ht8 hm8 hn2
    simp only [← HZL.out, ← HER.out] at hsa
    refine (hsa _ hzr (HRC.out.below (bthen hB1 hb2))).mono ?_
    clear hsa
    rintro e w3 ⟨⟨zv, rfl, hZ⟩, hb3⟩
    refine ⟨_, rfl, ?_⟩
    have hb13 := bthen hb2 hb3
    refine hK.out _ _ (HS.out _ hb13) (fun _ => ?_)
    clear hK K
    refine norm_ (a' := ?_) ?_ ?_
    rotate_left
    · show Act.put _ (some 42) _ = _
      simp only [Act.put, List.setIfInBounds_toArray, List.set_cons_zero, List.set_cons_succ]
      rfl
    refine pure_ (i := 16) (N := some 26) (v := ?_) (a' := ?_) #[true, true, true, true, true, true, true, true, true, true, true, true, true, true, true, true, true, false, false, true, false, false] rfl rfl (by kernel_rfl) (fun _ _ _ h => h) (Or.inl ⟨by rfl, ?_⟩) ?_ ?_
    rotate_left
    · intro w'
      go_simp
      with_reducible rfl
    rotate_left
    · simp only [Act.put, List.setIfInBounds_toArray, List.set_cons_zero, List.set_cons_succ]
      rfl
    refine pure_ (i := 17) (N := some 43) (v := ?_) (a' := ?_) #[true, true, true, true, true, true, true, true, true, true, true, true, true, true, true, true, true, true, false, true, false, false] rfl rfl (by kernel_rfl) (fun _ _ _ h => h) (Or.inl ⟨by rfl, ?_⟩) ?_ ?_
    rotate_left
    · intro w'
      go_simp
      with_reducible rfl
    rotate_left
    · simp only [Act.put, List.setIfInBounds_toArray, List.set_cons_zero, List.set_cons_succ]
      rfl
    refine pure_ (i := 18) (N := some 44) (v := ?_) (a' := ?_) #[true, true, true, true, true, true, true, true, true, true, true, true, true, true, true, true, true, true, true, true, false, false] rfl rfl (by kernel_rfl) (fun _ _ _ h => h) (Or.inl ⟨by rfl, ?_⟩) ?_ ?_
    rotate_left
    · intro w'
      go_simp
      with_reducible rfl
    rotate_left
    · simp only [Act.put, List.setIfInBounds_toArray, List.set_cons_zero, List.set_cons_succ]
      rfl
    have hblk2 := blk_grown hblk hg2 (by simp)
    exact hJ ((ZA, ZC), zv, g6) w3 ⟨Kd.S_lower hZ hb2.size, (hb3.block _ (blk_lt hblk2)).trans hblk2, by rw [hg6]; exact hBd.size, hb13⟩
theorem refresh_u (A B : Option Addr) (n c n2 c2 : Nat) (L : List Sh) (r : List G) (w : World) (hC : Kd.C k52 w A n (L.map sI)) (hcc : n ≤ c) (hr : RL gv w B n2 r) (hc2 : n2 ≤ c2) (hn2 : n2 ≤ 9223372036854775807) :
    Calls Try.prog 34 #[.slice A n c, .slice B n2 c2] w fun e w' => RetSh e w' w.heap.size (refreshR L r) (refreshE L r) ∧ Below w.heap.size w w' := by
  by_cases hck : checkR L = 0
  case neg => exact refresh_bad1 A B n c n2 c2 L r w hC hck
  obtain ⟨a, l, rfl, hal, _⟩ := check0 hck
  by_cases h1 : n ≠ mnN (a :: l)
  · exact refresh_bad2 A B n c n2 c2 a l r w hC hck hal (.inl h1)
  by_cases h2 : epN (a :: l) = 1048576
  · exact refresh_bad2 A B n c n2 c2 a l r w hC hck hal (.inr h2)
  exact refresh_rest A B n c n2 c2 a l r w hC hcc hr hc2 hn2 hck hal (Decidable.of_not_not h1) h2
end Go.Proofs.Ytillfbohengpaaa
end
section
namespace Go.Proofs.Ytillfbohengpaaa.PA
open Go.RowKit Go.Proofs.YtillfbohengpaaaW.PrintWords Go.Proofs.YtillfbohengpaaaW.PrintLast Go.Proofs.YtillfbohengpaaaW.PrintMore
attribute [local go_sem] max2_int min2_int max_two min_two max_three min_three max_four min_four   -- for this text's walks alone
set_option linter.unusedVariables false
set_option linter.unusedSimpArgs false
def shares_Check.f (l0 : List S52) : Option Int := if okS l0 = true then some (checkR (l0.map shG)) else none
theorem shares_Check.calls (A0 : Option Addr) (c0 : Nat) (l0 : List S52) (r : Int) (w : World) (hr0 : Kd.C k52 w A0 l0.length l0) (hc0 : l0.length ≤ c0) (h : shares_Check.f l0 = some r) :
 Calls Try.prog 27 #[.slice A0 l0.length c0] w fun e w' => e = .returned (.int .i64 r) ∧ Below w.heap.size w w' := by
 unfold shares_Check.f at h
 split at h
 · rename_i ho
   obtain ⟨L, rfl⟩ := ex_okS ho
   rw [shG_map] at h
   injection h with h
   subst h
   exact check_u (rs_of_C hr0)
 · cases h
end Go.Proofs.Ytillfbohengpaaa.PA
end
section
namespace Go.Proofs.Ytillfbohengpaaa.PA
open Go.RowKit Go.Proofs.YtillfbohengpaaaW.PrintWords Go.Proofs.YtillfbohengpaaaW.PrintLast Go.Proofs.YtillfbohengpaaaW.PrintMore
attribute [local go_sem] max2_int min2_int max_two min_two max_three min_three max_four min_four   -- for this text's walks alone
set_option linter.unusedVariables false
set_option linter.unusedSimpArgs false
open Gf in
def field_Coefficients.f (l0 l1 : List Int) : Option (List Int × Int) := if isB l0 = true ∧ isB l1 = true ∧ l0.length ≤ 1000 then
 (if (l0.map gI).Nodup ∧ l0.length = l1.length then some ((coefs (l0.map gI) (l1.map gI)).map tI, 0) else some ([], 1)) else none
theorem field_Coefficients.calls (A0 : Option Addr) (c0 : Nat) (l0 : List Int) (A1 : Option Addr) (c1 : Nat) (l1 : List Int) (r1 : List Int) (r2 : Int) (w : World) (hr0 : Kd.C (Kd.int .u8) w A0 l0.length l0) (hc0 : l0.length ≤ c0) (hr1 : Kd.C (Kd.int .u8) w A1 l1.length l1) (hc1 : l1.length ≤ c1) (h : field_Coefficients.f l0 l1 = some (r1, r2)) :
 Calls Try.prog 20 #[.slice A0 l0.length c0, .slice A1 l1.length c1] w fun e w' => ∃ v0_ : Value, e = .returned (.tuple #[v0_, .int .i64 r2]) ∧ Kd.R (Kd.int .u8) 5 w' w.heap.size (fun _ => True) v0_ r1 ∧ Below w.heap.size w w' := by
 unfold field_Coefficients.f at h
 split at h
 case isFalse => cases h
 rename_i ho
 obtain ⟨h0, h1, hn⟩ := ho
 obtain ⟨xs, rfl⟩ := ex_isB h0
 obtain ⟨ys, rfl⟩ := ex_isB h1
 rw [gI_map, gI_map] at h
 by_cases hd : xs.Nodup ∧ (xs.map tI).length = (ys.map tI).length
 · rw [if_pos hd] at h
   injection h with h
   injection h with e1 e2
   subst e1 e2
   have hy := rl_of_C hr1
   rw [← hd.2] at hy ⊢
   refine (coefs_ok A0 A1 c0 c1 _ xs ys w (rl_of_C hr0) hy hd.1 hn).mono ?_
   rintro e w' ⟨v, rfl, hs, hb⟩
   exact ⟨v, rfl, R_of_own hs (fun _ _ => trivial), hb⟩
 · rw [if_neg hd] at h
   injection h with h
   injection h with e1 e2
   subst e1 e2
   refine (coefs_bad A0 A1 c0 c1 _ _ xs ys w (rl_of_C hr0) (rl_of_C hr1) hd).mono ?_
   rintro e w' ⟨rfl, hb⟩
   exact ⟨_, rfl, Kd.R_nil _ _ _ _ _, hb⟩
end Go.Proofs.Ytillfbohengpaaa.PA
end
section
namespace Go.Proofs.Ytillfbohengpaaa.PA
open Go.RowKit Go.Proofs.YtillfbohengpaaaW.PrintWords Go.Proofs.YtillfbohengpaaaW.PrintLast Go.Proofs.YtillfbohengpaaaW.PrintMore
attribute [local go_sem] max2_int min2_int max_two min_two max_three min_three max_four min_four   -- for this text's walks alone
set_option linter.unusedVariables false
set_option linter.unusedSimpArgs false
mutual
def shares_Explain.l0 : Nat → List (S52) → List Int → Int → List Int → Int → Int → Option (List Int × Int)
 | 0, _, _, _, _, _, _ => none
 | k + 1, x0, x4, x6, x35, x36, x37 => if x37 < x36 then (if 0 ≤ x37 then (if x37 < (x35.length : Int) then ((shares_points.f k x0 x37).bind fun bt213 => (if bt213.1.length < 140737488355328 then (if bt213.2.length < 140737488355328 then (shares_Explain.l1 k x0 x4 x6 (bt213.1 ++ [0]) (bt213.2 ++ [rd x35 x37]) 9 x35 x36 x37) else (none)) else (none))) else (none)) else (none)) else (some (x4, 0))
def shares_Explain.l1 : Nat → List (S52) → List Int → Int → List Int → List Int → Int → List Int → Int → Int → Option (List Int × Int)
 | 0, _, _, _, _, _, _, _, _, _ => none
 | k + 1, x0, x4, x6, x9, x10, x11, x35, x36, x37 => if (x9.length : Int) < x6 then (if x9.length < 140737488355328 then (if x10.length < 140737488355328 then (shares_Explain.l1 k x0 x4 x6 (x9 ++ [x11]) (x10 ++ [0]) ((x11 + 1) % 256) x35 x36 x37) else (none)) else (none)) else ((field_Coefficients.f x9 x10).bind fun bt231 => (if 1 ≤ (bt231.1.length : Int) then ((some (bt231.1.drop 1 : List Int)).bind fun y235 => (if x4.length + y235.length < 140737488355328 then (shares_Explain.l0 k x0 (x4 ++ y235) x6 x35 x36 (wrap64 (x37 + 1))) else (none))) else (none)))
end
def shares_Explain.f (k : Nat) (l0 : List (S52)) (l1 : List Int) : Option (List Int × Int) := (shares_Check.f l0).bind fun t209 => (if t209 = 0 then (if 0 < (l0.length : Int) then (if (l0.length : Int) ≥ ((rd_T52 l0 0).f2) then (some (([] : List Int), 80)) else (if (l1.length : Int) = (((rd_T52 l0 0).f4).length : Int) then (shares_Explain.l0 k l0 ([] : List Int) ((rd_T52 l0 0).f2) l1 (l1.length : Int) 0) else (some (([] : List Int), 1)))) else (none)) else (some (([] : List Int), t209)))
set_option maxHeartbeats 8000000 in
set_option maxRecDepth 100000 in
theorem shares_Explain.calls (k : Nat) (A0 : Option Addr) (c0 : Nat) (l0 : List (S52)) (A1 : Option Addr) (c1 : Nat) (l1 : List Int) (r1 : List Int) (r2 : Int) (w : World) (hr0 : Kd.C k52 w A0 l0.length l0) (hc0 : l0.length ≤ c0) (hr1 : Kd.C (Kd.int .u8) w A1 l1.length l1) (hc1 : l1.length ≤ c1) (h : shares_Explain.f k l0 l1 = some (r1, r2)) :
 Calls Try.prog 32 #[.slice A0 l0.length c0, .slice A1 l1.length c1] w fun e w' => ∃ v0_ : Value, e = .returned (.tuple #[v0_, .int .i64 r2]) ∧ Kd.R (Kd.int .u8) 5 w' w.heap.size (fun _ => True) v0_ r1 ∧ Below w.heap.size w w' := by
 have HR0 := Aside0.mk hr0
 have HC0 := Aside0.mk hc0
 clear hr0 hc0
 have HR1 := Aside0.mk hr1
 have HC1 := Aside0.mk hc1
 clear hr1 hc1
 have HB := Aside0.mk (Below.refl w.heap.size w)
 have H : ((shares_Check.f l0).bind fun t209 => (if t209 = 0 then (if 0 < (l0.length : Int) then (if (l0.length : Int) ≥ ((rd_T52 l0 0).f2) then (some (([] : List Int), 80)) else (if (l1.length : Int) = (((rd_T52 l0 0).f4).length : Int) then (shares_Explain.l0 k l0 ([] : List Int) ((rd_T52 l0 0).f2) l1 (l1.length : Int) 0) else (some (([] : List Int), 1)))) else (none)) else (some (([] : List Int), t209)))) = some (r1, r2) := h
 clear h
 replace H := Option.bind_eq_some_iff.mp H
 obtain ⟨t209, A30, H⟩ := H
 replace H : (if t209 = 0 then (if 0 < (l0.length : Int) then (if (l0.length : Int) ≥ ((rd_T52 l0 0).f2) then (some (([] : List Int), 80)) else (if (l1.length : Int) = (((rd_T52 l0 0).f4).length : Int) then (shares_Explain.l0 k l0 ([] : List Int) ((rd_T52 l0 0).f2) l1 (l1.length : Int) 0) else (some (([] : List Int), 1)))) else (none)) else (some (([] : List Int), t209))) = some (r1, r2) := H
 have A3 := Aside0.mk A30
 clear A30
 by_cases c4 : t209 = 0
 · rw [if_pos c4] at H
   have c4b0 : (t209 == 0) = true := beq_iff_eq.mpr c4
   have c4b1 : (t209 != 0) = false := bne_eq_false_iff_eq.mpr c4
   clear c4
   by_cases c5 : 0 < (l0.length : Int)
   · rw [if_pos c5] at H
     have c5b0 : decide (0 < (l0.length : Int)) = true := decide_eq_true c5
     have c5b1 : decide (0 < l0.length) = true := decide_eq_true (by omega)
     clear c5
     by_cases c6 : (l0.length : Int) ≥ ((rd_T52 l0 0).f2)
     · rw [if_pos c6] at H
       have c6b0 : decide (((rd_T52 l0 0).f2) ≤ (l0.length : Int)) = true := decide_eq_true c6
       clear c6
       simp only [Option.some.injEq, Prod.mk.injEq] at H
       obtain ⟨rfl, rfl⟩ := H
       go_enter Try.func32, Try.ntmps32
       go_wp2_with (first | ((with_reducible refine gate_callee (f := 27) rfl ?_); refine goesL_ (some 15) rfl rfl Try.func27 (by kernel_rfl) rfl #[.slice A0 l0.length c0] rfl (by (try simp only [List.map_toArray, List.map_cons, List.map_nil]); first | done | rfl | (simp only [List.length_drop, List.length_take]; rfl)) ?_; (with_reducible refine (shares_Check.calls _ _ l0 t209 _ ?side1 ?side2 A3.out).mono ?_); (case side1 => repeat (first | exact HR0.out | (with_reducible refine Kd.C_alloc ?_ _) | (with_reducible refine Kd.C_drewN ?_ _) | (with_reducible refine Kd.C_drew ?_))); (case side2 => exact HC0.out); rintro e w7 ⟨rfl, hb⟩; refine ⟨_, rfl, ?_⟩; have n0_ := Aside0.mk (below_step (by repeat (first | (with_reducible first | exact HB.out | apply below_alloc | apply pw_below_drewN | apply below_drew1) | exact HB.out)) hb); clear HB; have HB := n0_; clear n0_; (try clear hb); (try clear hb2); (try clear hk); (try clear hi); have p210 : 0 ≤ (0 : Int) := (by omega); have q210 : 0 < (l0.length : Int) := of_decide_eq_true (by first | (with_reducible assumption) | assumption); obtain ⟨ad210, A210_4, c210_4, e210, hx210_0, hx210_1, hx210_2, hx210_3, hx210_4, hl210_4, hi210_4⟩ := at_T52 HR0.out 0 p210 q210; cases e210; have qi210 : (0 < l0.length) = True := eq_true (by omega); (try rw [show ((0 : Int)).toNat = 0 from rfl] at hx210_0); (try rw [show 0 * 5 = 0 from rfl] at hx210_0); (try rw [Addr.add_zero'] at hx210_0); (try rw [show ((0 : Int)).toNat = 0 from rfl] at hx210_1); (try rw [show 0 * 5 = 0 from rfl] at hx210_1); (try rw [Addr.add_zero'] at hx210_1); (try rw [show ((0 : Int)).toNat = 0 from rfl] at hx210_2); (try rw [show 0 * 5 = 0 from rfl] at hx210_2); (try rw [Addr.add_zero'] at hx210_2); (try rw [show ((0 : Int)).toNat = 0 from rfl] at hx210_3); (try rw [show 0 * 5 = 0 from rfl] at hx210_3); (try rw [Addr.add_zero'] at hx210_3); (try rw [show ((0 : Int)).toNat = 0 from rfl] at hx210_4); (try rw [show 0 * 5 = 0 from rfl] at hx210_4); (try rw [Addr.add_zero'] at hx210_4); replace hx210_0 := (HB.out.cell (World.block_lt_of_cell? w _ hx210_0)).trans hx210_0; replace hx210_1 := (HB.out.cell (World.block_lt_of_cell? w _ hx210_1)).trans hx210_1; replace hx210_2 := (HB.out.cell (World.block_lt_of_cell? w _ hx210_2)).trans hx210_2; replace hx210_3 := (HB.out.cell (World.block_lt_of_cell? w _ hx210_3)).trans hx210_3; replace hx210_4 := (HB.out.cell (World.block_lt_of_cell? w _ hx210_4)).trans hx210_4; have HR210_4 := Aside0.mk hi210_4; have HC210_4 := Aside0.mk hl210_4; clear hi210_4 hl210_4; replace p210 := eq_true p210; replace q210 := eq_true q210))
       go_ret2
       exact ⟨_, by first | rfl | (simp [errW_none, errW_some] <;> rfl) | (simp [*, errW_none, errW_some] <;> rfl), by first | exact Kd.R_nil _ _ _ _ _ | exact Kd.N_nil _ _ _ _ _ | exact Kd.V_nil _ _ _ _ _ | exact Kd.Q_nil _ _ _ _ _ | exact Kd.S_nil _ _ _ _ _, by repeat (first | (with_reducible first | exact HB.out | apply below_alloc | apply pw_below_drewN | apply below_drew1) | exact HB.out)⟩
     · rw [if_neg c6] at H
       have c6b0 : decide (((rd_T52 l0 0).f2) ≤ (l0.length : Int)) = false := decide_eq_false c6
       clear c6
       by_cases c8 : (l1.length : Int) = (((rd_T52 l0 0).f4).length : Int)
       · rw [if_pos c8] at H
         have c8b0 : ((l1.length : Int) == (((rd_T52 l0 0).f4).length : Int)) = true := beq_iff_eq.mpr c8
         have c8b1 : ((l1.length : Int) != (((rd_T52 l0 0).f4).length : Int)) = false := bne_eq_false_iff_eq.mpr c8
         have c8b2 : (l1.length == ((rd_T52 l0 0).f4).length) = true := by first | simpa using c8 | (simp at c8 ⊢; omega)
         clear c8
         have H' := Aside0.mk H
         clear H
         go_enter Try.func32, Try.ntmps32
         go_wp2_with (first | ((with_reducible refine gate_callee (f := 27) rfl ?_); refine goesL_ (some 15) rfl rfl Try.func27 (by kernel_rfl) rfl #[.slice A0 l0.length c0] rfl (by (try simp only [List.map_toArray, List.map_cons, List.map_nil]); first | done | rfl | (simp only [List.length_drop, List.length_take]; rfl)) ?_; (with_reducible refine (shares_Check.calls _ _ l0 t209 _ ?side1 ?side2 A3.out).mono ?_); (case side1 => repeat (first | exact HR0.out | (with_reducible refine Kd.C_alloc ?_ _) | (with_reducible refine Kd.C_drewN ?_ _) | (with_reducible refine Kd.C_drew ?_))); (case side2 => exact HC0.out); rintro e w9 ⟨rfl, hb⟩; refine ⟨_, rfl, ?_⟩; have n0_ := Aside0.mk (below_step (by repeat (first | (with_reducible first | exact HB.out | apply below_alloc | apply pw_below_drewN | apply below_drew1) | exact HB.out)) hb); clear HB; have HB := n0_; clear n0_; (try clear hb); (try clear hb2); (try clear hk); (try clear hi); have p210 : 0 ≤ (0 : Int) := (by omega); have q210 : 0 < (l0.length : Int) := of_decide_eq_true (by first | (with_reducible assumption) | assumption); obtain ⟨ad210, A210_4, c210_4, e210, hx210_0, hx210_1, hx210_2, hx210_3, hx210_4, hl210_4, hi210_4⟩ := at_T52 HR0.out 0 p210 q210; cases e210; have qi210 : (0 < l0.length) = True := eq_true (by omega); (try rw [show ((0 : Int)).toNat = 0 from rfl] at hx210_0); (try rw [show 0 * 5 = 0 from rfl] at hx210_0); (try rw [Addr.add_zero'] at hx210_0); (try rw [show ((0 : Int)).toNat = 0 from rfl] at hx210_1); (try rw [show 0 * 5 = 0 from rfl] at hx210_1); (try rw [Addr.add_zero'] at hx210_1); (try rw [show ((0 : Int)).toNat = 0 from rfl] at hx210_2); (try rw [show 0 * 5 = 0 from rfl] at hx210_2); (try rw [Addr.add_zero'] at hx210_2); (try rw [show ((0 : Int)).toNat = 0 from rfl] at hx210_3); (try rw [show 0 * 5 = 0 from rfl] at hx210_3); (try rw [Addr.add_zero'] at hx210_3); (try rw [show ((0 : Int)).toNat = 0 from rfl] at hx210_4); (try rw [show 0 * 5 = 0 from rfl] at hx210_4); (try rw [Addr.add_zero'] at hx210_4); replace hx210_0 := (HB.out.cell (World.block_lt_of_cell? w _ hx210_0)).trans hx210_0; replace hx210_1 := (HB.out.cell (World.block_lt_of_cell? w _ hx210_1)).trans hx210_1; replace hx210_2 := (HB.out.cell (World.block_lt_of_cell? w _ hx210_2)).trans hx210_2; replace hx210_3 := (HB.out.cell (World.block_lt_of_cell? w _ hx210_3)).trans hx210_3; replace hx210_4 := (HB.out.cell (World.block_lt_of_cell? w _ hx210_4)).trans hx210_4; have HR210_4 := Aside0.mk hi210_4; have HC210_4 := Aside0.mk hl210_4; clear hi210_4 hl210_4; replace p210 := eq_true p210; replace q210 := eq_true q210; have p211 : 0 ≤ (0 : Int) := (by omega); have q211 : 0 < (l0.length : Int) := of_decide_eq_true (by first | (with_reducible assumption) | assumption); obtain ⟨ad211, A211_4, c211_4, e211, hx211_0, hx211_1, hx211_2, hx211_3, hx211_4, hl211_4, hi211_4⟩ := at_T52 HR0.out 0 p211 q211; obtain rfl : ad210 = ad211 := (by injection e211); have qi211 : (0 < l0.length) = True := eq_true (by omega); (try rw [show ((0 : Int)).toNat = 0 from rfl] at hx211_0); (try rw [show 0 * 5 = 0 from rfl] at hx211_0); (try rw [Addr.add_zero'] at hx211_0); (try rw [show ((0 : Int)).toNat = 0 from rfl] at hx211_1); (try rw [show 0 * 5 = 0 from rfl] at hx211_1); (try rw [Addr.add_zero'] at hx211_1); (try rw [show ((0 : Int)).toNat = 0 from rfl] at hx211_2); (try rw [show 0 * 5 = 0 from rfl] at hx211_2); (try rw [Addr.add_zero'] at hx211_2); (try rw [show ((0 : Int)).toNat = 0 from rfl] at hx211_3); (try rw [show 0 * 5 = 0 from rfl] at hx211_3); (try rw [Addr.add_zero'] at hx211_3); (try rw [show ((0 : Int)).toNat = 0 from rfl] at hx211_4); (try rw [show 0 * 5 = 0 from rfl] at hx211_4); (try rw [Addr.add_zero'] at hx211_4); replace hx211_0 := (HB.out.cell (World.block_lt_of_cell? w _ hx211_0)).trans hx211_0; replace hx211_1 := (HB.out.cell (World.block_lt_of_cell? w _ hx211_1)).trans hx211_1; replace hx211_2 := (HB.out.cell (World.block_lt_of_cell? w _ hx211_2)).trans hx211_2; replace hx211_3 := (HB.out.cell (World.block_lt_of_cell? w _ hx211_3)).trans hx211_3; replace hx211_4 := (HB.out.cell (World.block_lt_of_cell? w _ hx211_4)).trans hx211_4; have HR211_4 := Aside0.mk hi211_4; have HC211_4 := Aside0.mk hl211_4; clear hi211_4 hl211_4; replace p211 := eq_true p211; replace q211 := eq_true q211; have ea_ := Option.some.inj (hx210_4.symm.trans hx211_4); injection ea_ with ea_ en_ ec_; subst ea_; subst ec_; clear en_))
         go_loopg [4, 37] k (fun kq v4 v37 w' => ∃ (x4_1 : List Int) (x37_1 : Int), v37 = .int .i64 x37_1 ∧ Aside0 (shares_Explain.l0 kq l0 x4_1 ((rd_T52 l0 0).f2) l1 (l1.length : Int) x37_1 = some (r1, r2)) ∧ Aside0 (kq ≤ k) ∧ Aside0 (Kd.R (Kd.int .u8) 5 w' w.heap.size (fun _ => True) v4 x4_1) ∧ Aside0 (Below w.heap.size w w'))
         case atStart => exact ⟨(([] : List Int)), (0), (by first | rfl | (simp; done) | (simp [*]; done)), H', ⟨Nat.le_refl _⟩, ⟨by first | exact Kd.R_nil _ _ _ _ _ | exact Kd.N_nil _ _ _ _ _ | exact Kd.V_nil _ _ _ _ _ | exact Kd.Q_nil _ _ _ _ _ | exact Kd.S_nil _ _ _ _ _⟩, ⟨by repeat (first | (with_reducible first | exact HB.out | apply below_alloc | apply pw_below_drewN | apply below_drew1) | exact HB.out)⟩⟩
         case round =>
          clear H'
          try clear c1
          try clear c2
          try clear p2
          try clear q2
          try clear hx2
          try clear qi2
          try clear c3
          try clear c4
          try clear c4b0
          try clear c4b1
          try clear c5
          try clear c5b0
          try clear c5b1
          try clear c6
          try clear c6b0
          try clear c8
          try clear c8b0
          try clear c8b1
          try clear c8b2
          try clear hx210_0
          try clear hx210_1
          try clear hx210_2
          try clear hx210_3
          try clear hx210_4
          try clear hx211_0
          try clear hx211_1
          try clear hx211_2
          try clear hx211_3
          try clear hx211_4
          try clear p210
          try clear p211
          try clear q210
          try clear q211
          obtain ⟨x4_1, x37_1, rfl, HA, HK1, HO_4, HB⟩ := hrel
          cases gk with
          | zero => exact absurd HA.out (by simp [shares_Explain.l0])
          | succ k1 =>
           have H := HA.out
           clear HA
           simp only [shares_Explain.l0] at H
           by_cases c10 : x37_1 < (l1.length : Int)
           · rw [if_pos c10] at H
             have c10b0 : decide (x37_1 < (l1.length : Int)) = true := decide_eq_true c10
             clear c10
             by_cases c11 : 0 ≤ x37_1
             · rw [if_pos c11] at H
               have c11b0 : decide (0 ≤ x37_1) = true := decide_eq_true c11
               clear c11
               by_cases c12 : x37_1 < (l1.length : Int)
               · rw [if_pos c12] at H
                 have c12b0 : decide (x37_1 < (l1.length : Int)) = true := decide_eq_true c12
                 clear c12
                 replace H := Option.bind_eq_some_iff.mp H
                 obtain ⟨⟨t213, t214⟩, A130, H⟩ := H
                 replace H : (if t213.length < 140737488355328 then (if t214.length < 140737488355328 then (shares_Explain.l1 k1 l0 x4_1 ((rd_T52 l0 0).f2) (t213 ++ [0]) (t214 ++ [rd l1 x37_1]) 9 l1 (l1.length : Int) x37_1) else (none)) else (none)) = some (r1, r2) := H
                 have A13 := Aside0.mk A130
                 clear A130
                 by_cases c14 : t213.length < 140737488355328
                 · rw [if_pos c14] at H
                   have LMc14 := Aside0.mk c14
                   clear c14
                   obtain ⟨y219, hy219⟩ : ∃ y_ : List Int, y_ = (t213 ++ [0]) := ⟨_, rfl⟩
                   replace H : (if t214.length < 140737488355328 then (shares_Explain.l1 k1 l0 x4_1 ((rd_T52 l0 0).f2) y219 (t214 ++ [rd l1 x37_1]) 9 l1 (l1.length : Int) x37_1) else (none)) = some (r1, r2) := by first | (rw [hy219]; with_reducible exact H) | (have H2_ := (Option.bind_some _ _).symm.trans H; rw [hy219]; with_reducible exact H2_) | (have H2_ := (Option.bind_some _ _).symm.trans H; with_reducible exact H2_) | with_reducible exact H | (rw [hy219]; exact H) | exact H
                   have Ny219 := Aside0.mk hy219
                   clear hy219
                   by_cases c15 : t214.length < 140737488355328
                   · rw [if_pos c15] at H
                     have LMc15 := Aside0.mk c15
                     clear c15
                     obtain ⟨y222, hy222⟩ : ∃ y_ : List Int, y_ = (t214 ++ [rd l1 x37_1]) := ⟨_, rfl⟩
                     replace H : (shares_Explain.l1 k1 l0 x4_1 ((rd_T52 l0 0).f2) y219 y222 9 l1 (l1.length : Int) x37_1) = some (r1, r2) := by first | (rw [hy222]; with_reducible exact H) | (have H2_ := (Option.bind_some _ _).symm.trans H; rw [hy222]; with_reducible exact H2_) | (have H2_ := (Option.bind_some _ _).symm.trans H; with_reducible exact H2_) | with_reducible exact H | (rw [hy222]; exact H) | exact H
                     have Ny222 := Aside0.mk hy222
                     clear hy222
                     have H' := Aside0.mk H
                     clear H
                     have p212 : 0 ≤ (x37_1 : Int) := of_decide_eq_true (by first | (with_reducible assumption) | assumption)
                     have q212 : x37_1 < (l1.length : Int) := of_decide_eq_true (by first | (with_reducible assumption) | assumption)
                     obtain ⟨ad212, e212, hx212_0⟩ := Kd.at_int HR1.out x37_1 p212 q212
                     cases e212
                     replace hx212_0 := (HB.out.cell (World.block_lt_of_cell? w _ hx212_0)).trans hx212_0
                     replace p212 := eq_true p212
                     replace q212 := eq_true q212
                     go_wp2_with (first | ((with_reducible refine gate_callee (f := 50) rfl ?_); refine goesL_ (some 45) rfl rfl Try.func50 (by kernel_rfl) rfl #[.slice (some ad210) l0.length c0, .int .i64 x37_1] rfl (by (try simp only [List.map_toArray, List.map_cons, List.map_nil]); first | done | rfl | (simp only [List.length_drop, List.length_take]; rfl)) ?_; (with_reducible refine (shares_points.calls k1 _ _ l0 x37_1 t213 t214 _ ?side1 ?side2 A13.out).mono ?_); (case side1 => repeat (first | exact (Kd.C_below HR0.out HB.out) | (with_reducible refine Kd.C_alloc ?_ _) | (with_reducible refine Kd.C_drewN ?_ _) | (with_reducible refine Kd.C_drew ?_))); (case side2 => exact HC0.out); rintro e w16 ⟨v215, v217, rfl, ho0, ho1, hb⟩; refine ⟨_, rfl, ?_⟩; have n0_ := Aside0.mk (Kd.R_mono (Kd.R_told (Kd.R_told (Kd.R_old (by (with_reducible repeat (first | apply Kd.R_alloc | apply Kd.R_drewN | apply Kd.R_drew)); exact HO_4.out) hb) (Kd.R_base ho0)) (Kd.R_base ho1)) (fun _ h_ => h_.1)); have n1_ := Aside0.mk (Kd.R_lower (Kd.R_new' ho0 (Kd.R_lt (by (with_reducible repeat (first | apply Kd.R_alloc | apply Kd.R_drewN | apply Kd.R_drew)); exact HO_4.out))) (below_size (by repeat (first | (with_reducible first | exact HB.out | apply below_alloc | apply pw_below_drewN | apply below_drew1) | exact HB.out)))); have n2_ := Aside0.mk (Kd.R_lower (Kd.R_new' ho1 (Kd.R_lt (by (with_reducible repeat (first | apply Kd.R_alloc | apply Kd.R_drewN | apply Kd.R_drew)); exact HO_4.out))) (below_size (by repeat (first | (with_reducible first | exact HB.out | apply below_alloc | apply pw_below_drewN | apply below_drew1) | exact HB.out)))); have n3_ := Aside0.mk (below_step (by repeat (first | (with_reducible first | exact HB.out | apply below_alloc | apply pw_below_drewN | apply below_drew1) | exact HB.out)) hb); clear HO_4; clear HB; have HO_4 := n0_; have HO216 := n1_; have HO218 := n2_; have HB := n3_; clear n0_ n1_ n2_ n3_; (try clear hb); (try clear hb2); (try clear hk); (try clear hi); (try clear ho0); (try clear ho1)) | ((with_reducible refine gate_builtin (b := .append) (xs := #[.tmp 48, .tmp 49]) rfl ?_); at_builtin; refine Kd.R_append (Kd.int .u8) (w0 := w) w.heap.size rfl (.tmp 48) (.tmp 49) 30 5 (.int .u8 0) 1 rfl Try.underlying30 info5 rfl (by decide) (by omega) v215 t213 0 [.int .u8 0] (fun k_ => some k_ ≠ (u4 : Value).ownBlock ∧ some k_ ≠ (v217 : Value).ownBlock) (fun _ => False) rfl rfl ?aP (fun _ hk => hk.elim) ?aF ?aO ?aB ?aS ?aL ?_; (case aP => exact rfl); (case aB => exact (by repeat (first | (with_reducible first | exact HB.out | apply below_alloc | apply pw_below_drewN | apply below_drew1) | exact HB.out))); (case aF => exact (fun k_ hk => ⟨Kd.fresh' (Kd.R_lt (by (with_reducible repeat (first | apply Kd.R_alloc | apply Kd.R_drewN | apply Kd.R_drew)); exact HO_4.out)) k_ hk, Kd.fresh' (Kd.R_lt (by (with_reducible repeat (first | apply Kd.R_alloc | apply Kd.R_drewN | apply Kd.R_drew)); exact HO218.out)) k_ hk⟩)); (case aO => exact (by (with_reducible repeat (first | apply Kd.R_alloc | apply Kd.R_drewN | apply Kd.R_drew)); exact Kd.R_mono HO216.out (fun _ hk => ⟨hk.2, hk.1⟩))); (case aS => exact (below_size (by repeat (first | (with_reducible first | exact HB.out | apply below_alloc | apply pw_below_drewN | apply below_drew1) | exact HB.out)))); (case aL => have := LMc14.out; omega); intro v220 w17 ho hb hg hat; rw [← Ny219.out] at ho; have n0_ := Aside0.mk (Kd.R_after (ok := (fun k_ => some k_ ≠ (v217 : Value).ownBlock)) (by (with_reducible repeat (first | apply Kd.R_alloc | apply Kd.R_drewN | apply Kd.R_drew)); exact Kd.R_mono HO_4.out (fun _ hk => ⟨hk.2, hk.1.2⟩)) hg hat); have n1_ := Aside0.mk (Kd.R_after (ok := (fun k_ => some k_ ≠ (u4 : Value).ownBlock)) (by (with_reducible repeat (first | apply Kd.R_alloc | apply Kd.R_drewN | apply Kd.R_drew)); exact Kd.R_mono HO218.out (fun _ hk => ⟨hk.2, hk.1⟩)) hg hat); have n2_ := Aside0.mk (hb); have n3_ := Aside0.mk (ho); clear HO_4; clear HO218; clear HB; clear HO216; have HO_4 := n0_; have HO218 := n1_; have HB := n2_; have HO221 := n3_; clear n0_ n1_ n2_ n3_; clear ho hb hg hat) | ((with_reducible refine gate_builtin (b := .append) (xs := #[.tmp 51, .tmp 53]) rfl ?_); at_builtin; refine Kd.R_append (Kd.int .u8) (w0 := w) w.heap.size rfl (.tmp 51) (.tmp 53) 30 5 (.int .u8 0) 1 rfl Try.underlying30 info5 rfl (by decide) (by omega) v217 t214 (rd l1 x37_1) [.int .u8 (rd l1 x37_1)] (fun k_ => some k_ ≠ (u4 : Value).ownBlock ∧ some k_ ≠ (v220 : Value).ownBlock) (fun _ => False) rfl rfl ?aP (fun _ hk => hk.elim) ?aF ?aO ?aB ?aS ?aL ?_; (case aP => exact rfl); (case aB => exact (by repeat (first | (with_reducible first | exact HB.out | apply below_alloc | apply pw_below_drewN | apply below_drew1) | exact HB.out))); (case aF => exact (fun k_ hk => ⟨Kd.fresh' (Kd.R_lt (by (with_reducible repeat (first | apply Kd.R_alloc | apply Kd.R_drewN | apply Kd.R_drew)); exact HO_4.out)) k_ hk, Kd.fresh' (Kd.R_lt (by (with_reducible repeat (first | apply Kd.R_alloc | apply Kd.R_drewN | apply Kd.R_drew)); exact HO221.out)) k_ hk⟩)); (case aO => exact (by (with_reducible repeat (first | apply Kd.R_alloc | apply Kd.R_drewN | apply Kd.R_drew)); exact HO218.out)); (case aS => exact (below_size (by repeat (first | (with_reducible first | exact HB.out | apply below_alloc | apply pw_below_drewN | apply below_drew1) | exact HB.out)))); (case aL => have := LMc15.out; omega); intro v223 w18 ho hb hg hat; rw [← Ny222.out] at ho; have n0_ := Aside0.mk (Kd.R_after (ok := (fun k_ => some k_ ≠ (v220 : Value).ownBlock)) (by (with_reducible repeat (first | apply Kd.R_alloc | apply Kd.R_drewN | apply Kd.R_drew)); exact Kd.R_mono HO_4.out (fun _ hk => ⟨hk.2, hk.1⟩)) hg hat); have n1_ := Aside0.mk (Kd.R_after (ok := (fun k_ => some k_ ≠ (u4 : Value).ownBlock)) (by (with_reducible repeat (first | apply Kd.R_alloc | apply Kd.R_drewN | apply Kd.R_drew)); exact HO221.out) hg hat); have n2_ := Aside0.mk (hb); have n3_ := Aside0.mk (ho); clear HO_4; clear HO221; clear HB; clear HO218; have HO_4 := n0_; have HO221 := n1_; have HB := n2_; have HO224 := n3_; clear n0_ n1_ n2_ n3_; clear ho hb hg hat))
                     go_loopg [9, 10, 11] k1 (fun kq v9 v10 v11 w' => ∃ (x9_2 : List Int) (x10_2 : List Int) (x11_2 : Int), v11 = .int .u8 x11_2 ∧ Aside0 (shares_Explain.l1 kq l0 x4_1 ((rd_T52 l0 0).f2) x9_2 x10_2 x11_2 l1 (l1.length : Int) x37_1 = some (r1, r2)) ∧ Aside0 (kq ≤ k1) ∧ Aside0 (Kd.R (Kd.int .u8) 5 w' w.heap.size (fun k_ => some k_ ≠ (v9 : Value).ownBlock ∧ some k_ ≠ (v10 : Value).ownBlock) u4 x4_1) ∧ Aside0 (Kd.R (Kd.int .u8) 5 w' w.heap.size (fun k_ => some k_ ≠ (u4 : Value).ownBlock ∧ some k_ ≠ (v10 : Value).ownBlock) v9 x9_2) ∧ Aside0 (Kd.R (Kd.int .u8) 5 w' w.heap.size (fun k_ => some k_ ≠ (u4 : Value).ownBlock ∧ some k_ ≠ (v9 : Value).ownBlock) v10 x10_2) ∧ Aside0 (Below w.heap.size w w'))
                     case atStart => exact ⟨(y219), (y222), (9), (by first | rfl | (simp; done) | (simp [*]; done)), H', ⟨Nat.le_refl _⟩, ⟨by (with_reducible repeat (first | apply Kd.R_alloc | apply Kd.R_drewN | apply Kd.R_drew)); exact HO_4.out⟩, ⟨by (with_reducible repeat (first | apply Kd.R_alloc | apply Kd.R_drewN | apply Kd.R_drew)); exact HO221.out⟩, ⟨by (with_reducible repeat (first | apply Kd.R_alloc | apply Kd.R_drewN | apply Kd.R_drew)); exact HO224.out⟩, ⟨by repeat (first | (with_reducible first | exact HB.out | apply below_alloc | apply pw_below_drewN | apply below_drew1) | exact HB.out)⟩⟩
                     case round =>
                      clear H'
                      try clear c1
                      try clear c2
                      try clear p2
                      try clear q2
                      try clear hx2
                      try clear qi2
                      try clear c3
                      try clear c4
                      try clear c4b0
                      try clear c4b1
                      try clear c5
                      try clear c5b0
                      try clear c5b1
                      try clear c6
                      try clear c6b0
                      try clear c8
                      try clear c8b0
                      try clear c8b1
                      try clear c8b2
                      try clear c10
                      try clear c10b0
                      try clear c11
                      try clear c11b0
                      try clear c12
                      try clear c12b0
                      try clear c14
                      try clear c15
                      try clear hx210_0
                      try clear hx210_1
                      try clear hx210_2
                      try clear hx210_3
                      try clear hx210_4
                      try clear hx211_0
                      try clear hx211_1
                      try clear hx211_2
                      try clear hx211_3
                      try clear hx211_4
                      try clear hx212_0
                      try clear p2
                      try clear p210
                      try clear p211
                      try clear p212
                      try clear q2
                      try clear q210
                      try clear q211
                      try clear q212
                      obtain ⟨x9_2, x10_2, x11_2, rfl, HA, HK2, HO_4, HO_9, HO_10, HB⟩ := hrel
                      cases gk with
                      | zero => exact absurd HA.out (by simp [shares_Explain.l1])
                      | succ k2 =>
                       have H := HA.out
                       clear HA
                       simp only [shares_Explain.l1] at H
                       by_cases c19 : (x9_2.length : Int) < ((rd_T52 l0 0).f2)
                       · rw [if_pos c19] at H
                         have c19b0 : decide ((x9_2.length : Int) < ((rd_T52 l0 0).f2)) = true := decide_eq_true c19
                         clear c19
                         by_cases c20 : x9_2.length < 140737488355328
                         · rw [if_pos c20] at H
                           have LMc20 := Aside0.mk c20
                           clear c20
                           obtain ⟨y225, hy225⟩ : ∃ y_ : List Int, y_ = (x9_2 ++ [x11_2]) := ⟨_, rfl⟩
                           replace H : (if x10_2.length < 140737488355328 then (shares_Explain.l1 k2 l0 x4_1 ((rd_T52 l0 0).f2) y225 (x10_2 ++ [0]) ((x11_2 + 1) % 256) l1 (l1.length : Int) x37_1) else (none)) = some (r1, r2) := by first | (rw [hy225]; with_reducible exact H) | (have H2_ := (Option.bind_some _ _).symm.trans H; rw [hy225]; with_reducible exact H2_) | (have H2_ := (Option.bind_some _ _).symm.trans H; with_reducible exact H2_) | with_reducible exact H | (rw [hy225]; exact H) | exact H
                           have Ny225 := Aside0.mk hy225
                           clear hy225
                           by_cases c21 : x10_2.length < 140737488355328
                           · rw [if_pos c21] at H
                             have LMc21 := Aside0.mk c21
                             clear c21
                             obtain ⟨y228, hy228⟩ : ∃ y_ : List Int, y_ = (x10_2 ++ [0]) := ⟨_, rfl⟩
                             replace H : (shares_Explain.l1 k2 l0 x4_1 ((rd_T52 l0 0).f2) y225 y228 ((x11_2 + 1) % 256) l1 (l1.length : Int) x37_1) = some (r1, r2) := by first | (rw [hy228]; with_reducible exact H) | (have H2_ := (Option.bind_some _ _).symm.trans H; rw [hy228]; with_reducible exact H2_) | (have H2_ := (Option.bind_some _ _).symm.trans H; with_reducible exact H2_) | with_reducible exact H | (rw [hy228]; exact H) | exact H
                             have Ny228 := Aside0.mk hy228
                             clear hy228
                             have H' := Aside0.mk H
                             clear H
                             obtain ⟨Ao22, co22, eo22⟩ := Kd.R_slice HO_9.out
                             subst eo22
                             go_wp2_with (first | ((with_reducible refine gate_builtin (b := .append) (xs := #[.tmp 61, .tmp 63]) rfl ?_); at_builtin; refine Kd.R_append (Kd.int .u8) (w0 := w) w.heap.size rfl (.tmp 61) (.tmp 63) 30 5 (.int .u8 0) 1 rfl Try.underlying30 info5 rfl (by decide) (by omega) (.slice Ao22 x9_2.length co22) x9_2 x11_2 [.int .u8 x11_2] (fun k_ => some k_ ≠ (u4 : Value).ownBlock ∧ some k_ ≠ (u10 : Value).ownBlock) (fun _ => False) rfl rfl ?aP (fun _ hk => hk.elim) ?aF ?aO ?aB ?aS ?aL ?_; (case aP => exact rfl); (case aB => exact (by repeat (first | (with_reducible first | exact HB.out | apply below_alloc | apply pw_below_drewN | apply below_drew1) | exact HB.out))); (case aF => exact (fun k_ hk => ⟨Kd.fresh' (Kd.R_lt (by (with_reducible repeat (first | apply Kd.R_alloc | apply Kd.R_drewN | apply Kd.R_drew)); exact HO_4.out)) k_ hk, Kd.fresh' (Kd.R_lt (by (with_reducible repeat (first | apply Kd.R_alloc | apply Kd.R_drewN | apply Kd.R_drew)); exact HO_10.out)) k_ hk⟩)); (case aO => exact (by (with_reducible repeat (first | apply Kd.R_alloc | apply Kd.R_drewN | apply Kd.R_drew)); exact HO_9.out)); (case aS => exact (below_size (by repeat (first | (with_reducible first | exact HB.out | apply below_alloc | apply pw_below_drewN | apply below_drew1) | exact HB.out)))); (case aL => have := LMc20.out; omega); intro v226 w23 ho hb hg hat; rw [← Ny225.out] at ho; have n0_ := Aside0.mk (Kd.R_after (ok := (fun k_ => some k_ ≠ (u10 : Value).ownBlock)) (by (with_reducible repeat (first | apply Kd.R_alloc | apply Kd.R_drewN | apply Kd.R_drew)); exact Kd.R_mono HO_4.out (fun _ hk => ⟨hk.2, hk.1⟩)) hg hat); have n1_ := Aside0.mk (Kd.R_after (ok := (fun k_ => some k_ ≠ (u4 : Value).ownBlock)) (by (with_reducible repeat (first | apply Kd.R_alloc | apply Kd.R_drewN | apply Kd.R_drew)); exact HO_10.out) hg hat); have n2_ := Aside0.mk (hb); have n3_ := Aside0.mk (ho); clear HO_4; clear HO_10; clear HB; clear HO_9; have HO_4 := n0_; have HO_10 := n1_; have HB := n2_; have HO227 := n3_; clear n0_ n1_ n2_ n3_; clear ho hb hg hat) | ((with_reducible refine gate_builtin (b := .append) (xs := #[.tmp 65, .tmp 66]) rfl ?_); at_builtin; refine Kd.R_append (Kd.int .u8) (w0 := w) w.heap.size rfl (.tmp 65) (.tmp 66) 30 5 (.int .u8 0) 1 rfl Try.underlying30 info5 rfl (by decide) (by omega) u10 x10_2 0 [.int .u8 0] (fun k_ => some k_ ≠ (u4 : Value).ownBlock ∧ some k_ ≠ (v226 : Value).ownBlock) (fun _ => False) rfl rfl ?aP (fun _ hk => hk.elim) ?aF ?aO ?aB ?aS ?aL ?_; (case aP => exact rfl); (case aB => exact (by repeat (first | (with_reducible first | exact HB.out | apply below_alloc | apply pw_below_drewN | apply below_drew1) | exact HB.out))); (case aF => exact (fun k_ hk => ⟨Kd.fresh' (Kd.R_lt (by (with_reducible repeat (first | apply Kd.R_alloc | apply Kd.R_drewN | apply Kd.R_drew)); exact HO_4.out)) k_ hk, Kd.fresh' (Kd.R_lt (by (with_reducible repeat (first | apply Kd.R_alloc | apply Kd.R_drewN | apply Kd.R_drew)); exact HO227.out)) k_ hk⟩)); (case aO => exact (by (with_reducible repeat (first | apply Kd.R_alloc | apply Kd.R_drewN | apply Kd.R_drew)); exact HO_10.out)); (case aS => exact (below_size (by repeat (first | (with_reducible first | exact HB.out | apply below_alloc | apply pw_below_drewN | apply below_drew1) | exact HB.out)))); (case aL => have := LMc21.out; omega); intro v229 w24 ho hb hg hat; rw [← Ny228.out] at ho; have n0_ := Aside0.mk (Kd.R_after (ok := (fun k_ => some k_ ≠ (v226 : Value).ownBlock)) (by (with_reducible repeat (first | apply Kd.R_alloc | apply Kd.R_drewN | apply Kd.R_drew)); exact Kd.R_mono HO_4.out (fun _ hk => ⟨hk.2, hk.1⟩)) hg hat); have n1_ := Aside0.mk (Kd.R_after (ok := (fun k_ => some k_ ≠ (u4 : Value).ownBlock)) (by (with_reducible repeat (first | apply Kd.R_alloc | apply Kd.R_drewN | apply Kd.R_drew)); exact HO227.out) hg hat); have n2_ := Aside0.mk (hb); have n3_ := Aside0.mk (ho); clear HO_4; clear HO227; clear HB; clear HO_10; have HO_4 := n0_; have HO227 := n1_; have HB := n2_; have HO230 := n3_; clear n0_ n1_ n2_ n3_; clear ho hb hg hat))
                             go_roundg k2
                             case measure => have := HK1.out; have := HK2.out; omega
                             case rel => exact ⟨(y225), (y228), ((x11_2 + 1) % 256), (by first | rfl | (simp; done) | (simp [*]; done)), H', ⟨by have := HK1.out; have := HK2.out; omega⟩, ⟨by (with_reducible repeat (first | apply Kd.R_alloc | apply Kd.R_drewN | apply Kd.R_drew)); exact HO_4.out⟩, ⟨by (with_reducible repeat (first | apply Kd.R_alloc | apply Kd.R_drewN | apply Kd.R_drew)); exact HO227.out⟩, ⟨by (with_reducible repeat (first | apply Kd.R_alloc | apply Kd.R_drewN | apply Kd.R_drew)); exact HO230.out⟩, ⟨by repeat (first | (with_reducible first | exact HB.out | apply below_alloc | apply pw_below_drewN | apply below_drew1) | exact HB.out)⟩⟩
                           · rw [if_neg c21] at H
                             exact absurd H (by simp)
                         · rw [if_neg c20] at H
                           exact absurd H (by simp)
                       · rw [if_neg c19] at H
                         have c19b0 : decide ((x9_2.length : Int) < ((rd_T52 l0 0).f2)) = false := decide_eq_false c19
                         clear c19
                         replace H := Option.bind_eq_some_iff.mp H
                         obtain ⟨⟨t231, t232⟩, A250, H⟩ := H
                         replace H : (if 1 ≤ (t231.length : Int) then ((some (t231.drop 1 : List Int)).bind fun y235 => (if x4_1.length + y235.length < 140737488355328 then (shares_Explain.l0 k2 l0 (x4_1 ++ y235) ((rd_T52 l0 0).f2) l1 (l1.length : Int) (wrap64 (x37_1 + 1))) else (none))) else (none)) = some (r1, r2) := H
                         have A25 := Aside0.mk A250
                         clear A250
                         by_cases c26 : 1 ≤ (t231.length : Int)
                         · rw [if_pos c26] at H
                           have c26b0 := eq_true c26
                           have c26b1 : decide (1 ≤ (t231.length : Int)) = true := decide_eq_true c26
                           clear c26
                           obtain ⟨y235, hy235⟩ : ∃ y_ : List Int, y_ = (t231.drop 1) := ⟨_, rfl⟩
                           replace H : (if x4_1.length + y235.length < 140737488355328 then (shares_Explain.l0 k2 l0 (x4_1 ++ y235) ((rd_T52 l0 0).f2) l1 (l1.length : Int) (wrap64 (x37_1 + 1))) else (none)) = some (r1, r2) := by first | (rw [hy235]; with_reducible exact H) | (have H2_ := (Option.bind_some _ _).symm.trans H; rw [hy235]; with_reducible exact H2_) | (have H2_ := (Option.bind_some _ _).symm.trans H; with_reducible exact H2_) | with_reducible exact H | (rw [hy235]; exact H) | exact H
                           have Ny235 := Aside0.mk hy235
                           clear hy235
                           by_cases c27 : x4_1.length + y235.length < 140737488355328
                           · rw [if_pos c27] at H
                             have LMc27 := Aside0.mk c27
                             clear c27
                             obtain ⟨y239, hy239⟩ : ∃ y_ : List Int, y_ = (x4_1 ++ y235) := ⟨_, rfl⟩
                             replace H : (shares_Explain.l0 k2 l0 y239 ((rd_T52 l0 0).f2) l1 (l1.length : Int) (wrap64 (x37_1 + 1))) = some (r1, r2) := by first | (rw [hy239]; with_reducible exact H) | (have H2_ := (Option.bind_some _ _).symm.trans H; rw [hy239]; with_reducible exact H2_) | (have H2_ := (Option.bind_some _ _).symm.trans H; with_reducible exact H2_) | with_reducible exact H | (rw [hy239]; exact H) | exact H
                             have Ny239 := Aside0.mk hy239
                             clear hy239
                             have H' := Aside0.mk H
                             clear H
                             obtain ⟨Ao28, co28, eo28⟩ := Kd.R_slice HO_9.out
                             subst eo28
                             obtain ⟨Ao29, co29, eo29⟩ := Kd.R_slice HO_10.out
                             subst eo29
                             go_wp2_with (first | ((with_reducible refine gate_callee (f := 20) rfl ?_); refine goesL_ (some 71) rfl rfl Try.func20 (by kernel_rfl) rfl #[.slice Ao28 x9_2.length co28, .slice Ao29 x10_2.length co29] rfl (by (try simp only [List.map_toArray, List.map_cons, List.map_nil]); first | done | rfl | (simp only [List.length_drop, List.length_take]; rfl)) ?_; (with_reducible refine (field_Coefficients.calls _ _ x9_2 _ _ x10_2 t231 t232 _ ?side1 ?side2 ?side3 ?side4 A25.out).mono ?_); (case side1 => repeat (first | exact (Kd.R_reads' HO_9.out).2.2 | (with_reducible refine Kd.C_alloc ?_ _) | (with_reducible refine Kd.C_drewN ?_ _) | (with_reducible refine Kd.C_drew ?_))); (case side2 => exact (Kd.R_reads' HO_9.out).2.1); (case side3 => repeat (first | exact (Kd.R_reads' HO_10.out).2.2 | (with_reducible refine Kd.C_alloc ?_ _) | (with_reducible refine Kd.C_drewN ?_ _) | (with_reducible refine Kd.C_drew ?_))); (case side4 => exact (Kd.R_reads' HO_10.out).2.1); rintro e w30 ⟨v233, rfl, ho0, hb⟩; refine ⟨_, rfl, ?_⟩; have n0_ := Aside0.mk (Kd.R_elder' (by (with_reducible repeat (first | apply Kd.R_alloc | apply Kd.R_drewN | apply Kd.R_drew)); exact HO_4.out) (Kd.R_base ho0) hb); have n1_ := Aside0.mk (Kd.R_elder' (by (with_reducible repeat (first | apply Kd.R_alloc | apply Kd.R_drewN | apply Kd.R_drew)); exact HO_9.out) (Kd.R_base ho0) hb); have n2_ := Aside0.mk (Kd.R_elder' (by (with_reducible repeat (first | apply Kd.R_alloc | apply Kd.R_drewN | apply Kd.R_drew)); exact HO_10.out) (Kd.R_base ho0) hb); have n3_ := Aside0.mk (Kd.R_lower (Kd.R_new' (Kd.R_new' (Kd.R_new' ho0 (Kd.R_lt (by (with_reducible repeat (first | apply Kd.R_alloc | apply Kd.R_drewN | apply Kd.R_drew)); exact HO_4.out))) (Kd.R_lt (by (with_reducible repeat (first | apply Kd.R_alloc | apply Kd.R_drewN | apply Kd.R_drew)); exact HO_9.out))) (Kd.R_lt (by (with_reducible repeat (first | apply Kd.R_alloc | apply Kd.R_drewN | apply Kd.R_drew)); exact HO_10.out))) (below_size (by repeat (first | (with_reducible first | exact HB.out | apply below_alloc | apply pw_below_drewN | apply below_drew1) | exact HB.out)))); have n4_ := Aside0.mk (below_step (by repeat (first | (with_reducible first | exact HB.out | apply below_alloc | apply pw_below_drewN | apply below_drew1) | exact HB.out)) hb); clear HO_4; clear HO_9; clear HO_10; clear HB; have HO_4 := n0_; have HO_9 := n1_; have HO_10 := n2_; have HO234 := n3_; have HB := n4_; clear n0_ n1_ n2_ n3_ n4_; (try clear hb); (try clear hb2); (try clear hk); (try clear hi); (try clear ho0); obtain ⟨Ao32, co32, eo32⟩ := Kd.R_slice HO234.out; subst eo32; have q31 : (1 : Int) ≤ ((t231.length : Int) : Int) := of_decide_eq_true (by first | (with_reducible assumption) | assumption); obtain ⟨i031, hi031, _, hsz31, _⟩ := info_parts info5; have hroom31 : t231.length ≤ co32 := (Kd.R_reads' HO234.out).2.1; have hC31 : Kd.C (Kd.int .u8) _ Ao32 t231.length t231 := (Kd.R_reads' HO234.out).2.2; have hcut31 := cut_from (P := Try.prog) 30 5 .i64 Try.underlying30 hi031 1 hsz31 Ao32 t231.length co32 1 (by omega) q31; have hr31 := Kd.C_drop (m := (1 : Int).toNat) (c := co32) hC31 (by omega) hroom31; obtain ⟨A31, hA31⟩ : ∃ A1, A1 = (if co32 = (1 : Int).toNat then Ao32 else (Ao32 : Option Addr).map (·.add ((1 : Int).toNat * 1))) := ⟨_, rfl⟩; obtain ⟨c31, hc31⟩ : ∃ c1, c1 = co32 - (1 : Int).toNat := ⟨_, rfl⟩; have hy31 : y235.length = t231.length - (1 : Int).toNat := (by rw [Ny235.out, List.length_drop] <;> omega); rw [show (t231).drop (1 : Int).toNat = y235 from Ny235.out.symm] at hr31; replace hr31 : Kd.C (Kd.int .u8) _ A31 y235.length y235 := (by rw [hA31]; exact hr31); rw [← hy31, ← hA31, ← hc31] at hcut31; have HR238 := Aside0.mk hr31; have HC238 := Aside0.mk (show y235.length ≤ c31 from by rw [hy31, hc31]; exact Nat.sub_le_sub_right hroom31 _); clear hr31 hC31 hroom31 hi031 hsz31 hc31; have KY31 := Aside0.mk hy31; have KA31 := Aside0.mk hA31; clear hy31 hA31; have KL31 := Aside0.mk (show 1 ≤ t231.length from by omega); replace q31 := eq_true q31) | ((with_reducible refine gate_builtin (b := .append) (xs := #[.tmp 74, .tmp 76]) rfl ?_); at_builtin; refine Kd.R_append_rows (Kd.int .u8) (w0 := w) w.heap.size rfl (.tmp 74) (.tmp 76) 30 5 (.int .u8 0) 1 rfl Try.underlying30 info5 rfl (by decide) (by omega) u4 x4_1 y235 _ _ _ (fun k_ => some k_ ≠ (.slice Ao28 x9_2.length co28 : Value).ownBlock ∧ some k_ ≠ (.slice Ao29 x10_2.length co29 : Value).ownBlock ∧ some k_ ≠ (.slice Ao32 t231.length co32 : Value).ownBlock) (fun _ => False) rfl rfl ?aO ?aR (fun _ _ h => h) (fun _ h => h.elim) ?aF ?aB ?aS ?aL ?_; (case aR => repeat (first | exact (by repeat (first | (with_reducible exact HR238.out) | (with_reducible refine Kd.C_alloc ?_ _) | (with_reducible refine Kd.C_drewN ?_ _) | (with_reducible refine Kd.C_drew ?_) | exact HR238.out)) | (with_reducible refine Kd.C_alloc ?_ _) | (with_reducible refine Kd.C_drewN ?_ _) | (with_reducible refine Kd.C_drew ?_))); (case aB => exact (by repeat (first | (with_reducible first | exact HB.out | apply below_alloc | apply pw_below_drewN | apply below_drew1) | exact HB.out))); (case aF => exact (fun k_ hk => ⟨Kd.fresh' (Kd.R_lt (by (with_reducible repeat (first | apply Kd.R_alloc | apply Kd.R_drewN | apply Kd.R_drew)); exact HO_9.out)) k_ hk, Kd.fresh' (Kd.R_lt (by (with_reducible repeat (first | apply Kd.R_alloc | apply Kd.R_drewN | apply Kd.R_drew)); exact HO_10.out)) k_ hk, Kd.fresh' (Kd.R_lt (by (with_reducible repeat (first | apply Kd.R_alloc | apply Kd.R_drewN | apply Kd.R_drew)); exact HO234.out)) k_ hk⟩)); (case aO => exact (by (with_reducible repeat (first | apply Kd.R_alloc | apply Kd.R_drewN | apply Kd.R_drew)); exact Kd.R_mono HO_4.out (fun _ hk => ⟨hk.1.1, ⟨hk.1.2, hk.2⟩⟩))); (case aS => exact (below_size (by repeat (first | (with_reducible first | exact HB.out | apply below_alloc | apply pw_below_drewN | apply below_drew1) | exact HB.out)))); (case aL => have := LMc27.out; omega); intro v240 w33 ho hb hg hat; rw [← Ny239.out] at ho; have n0_ := Aside0.mk (Kd.R_after (ok := (fun k_ => some k_ ≠ (.slice Ao29 x10_2.length co29 : Value).ownBlock ∧ some k_ ≠ (.slice Ao32 t231.length co32 : Value).ownBlock)) (by (with_reducible repeat (first | apply Kd.R_alloc | apply Kd.R_drewN | apply Kd.R_drew)); exact Kd.R_mono HO_9.out (fun _ hk => ⟨⟨hk.1.2, hk.2⟩, hk.1.1⟩)) hg hat); have n1_ := Aside0.mk (Kd.R_after (ok := (fun k_ => some k_ ≠ (.slice Ao28 x9_2.length co28 : Value).ownBlock ∧ some k_ ≠ (.slice Ao32 t231.length co32 : Value).ownBlock)) (by (with_reducible repeat (first | apply Kd.R_alloc | apply Kd.R_drewN | apply Kd.R_drew)); exact Kd.R_mono HO_10.out (fun _ hk => ⟨⟨hk.1.2, hk.2⟩, hk.1.1⟩)) hg hat); have n2_ := Aside0.mk (Kd.R_after (ok := (fun k_ => some k_ ≠ (.slice Ao28 x9_2.length co28 : Value).ownBlock ∧ some k_ ≠ (.slice Ao29 x10_2.length co29 : Value).ownBlock)) (by (with_reducible repeat (first | apply Kd.R_alloc | apply Kd.R_drewN | apply Kd.R_drew)); exact Kd.R_mono HO234.out (fun _ hk => ⟨⟨hk.1.2, hk.2⟩, hk.1.1.2⟩)) hg hat); have n3_ := Aside0.mk (hb); have n4_ := Aside0.mk ((show Kd.C (Kd.int .u8) w33 A31 y235.length y235 from by rw [Ny235.out, KA31.out]; exact Kd.C_drop (m := 1) (c := co32) ((Kd.R_reads' (Kd.R_after (ok := (fun k_ => some k_ ≠ (.slice Ao28 x9_2.length co28 : Value).ownBlock ∧ some k_ ≠ (.slice Ao29 x10_2.length co29 : Value).ownBlock)) (by (with_reducible repeat (first | apply Kd.R_alloc | apply Kd.R_drewN | apply Kd.R_drew)); exact Kd.R_mono HO234.out (fun _ hk => ⟨⟨hk.1.2, hk.2⟩, hk.1.1.2⟩)) hg hat)).2.2) KL31.out ((Kd.R_reads' (Kd.R_after (ok := (fun k_ => some k_ ≠ (.slice Ao28 x9_2.length co28 : Value).ownBlock ∧ some k_ ≠ (.slice Ao29 x10_2.length co29 : Value).ownBlock)) (by (with_reducible repeat (first | apply Kd.R_alloc | apply Kd.R_drewN | apply Kd.R_drew)); exact Kd.R_mono HO234.out (fun _ hk => ⟨⟨hk.1.2, hk.2⟩, hk.1.1.2⟩)) hg hat)).2.1))); have n5_ := Aside0.mk (ho); clear HO_9; clear HO_10; clear HO234; clear HB; clear HR238; clear HO_4; have HO_9 := n0_; have HO_10 := n1_; have HO234 := n2_; have HB := n3_; have HR238 := n4_; have HO241 := n5_; clear n0_ n1_ n2_ n3_ n4_ n5_; clear ho hb hg hat))
                             go_roundg k2
                             case measure => have := HK1.out; have := HK2.out; omega
                             case rel => exact ⟨(y239), (wrap64 (x37_1 + 1)), (by first | rfl | (simp; done) | (simp [*]; done)), H', ⟨by have := HK1.out; have := HK2.out; omega⟩, ⟨by (with_reducible repeat (first | apply Kd.R_alloc | apply Kd.R_drewN | apply Kd.R_drew)); exact Kd.R_mono HO241.out (fun _ hk => trivial)⟩, ⟨by repeat (first | (with_reducible first | exact HB.out | apply below_alloc | apply pw_below_drewN | apply below_drew1) | exact HB.out)⟩⟩
                           · rw [if_neg c27] at H
                             exact absurd H (by simp)
                         · rw [if_neg c26] at H
                           exact absurd H (by simp)
                   · rw [if_neg c15] at H
                     exact absurd H (by simp)
                 · rw [if_neg c14] at H
                   exact absurd H (by simp)
               · rw [if_neg c12] at H
                 exact absurd H (by simp)
             · rw [if_neg c11] at H
               exact absurd H (by simp)
           · rw [if_neg c10] at H
             have c10b0 : decide (x37_1 < (l1.length : Int)) = false := decide_eq_false c10
             clear c10
             simp only [Option.some.injEq, Prod.mk.injEq] at H
             obtain ⟨rfl, rfl⟩ := H
             go_wp2
             go_ret2
             exact ⟨_, by first | rfl | (simp [errW_none, errW_some] <;> rfl) | (simp [*, errW_none, errW_some] <;> rfl), by (with_reducible repeat (first | apply Kd.R_alloc | apply Kd.R_drewN | apply Kd.R_drew)); exact HO_4.out, by repeat (first | (with_reducible first | exact HB.out | apply below_alloc | apply pw_below_drewN | apply below_drew1) | exact HB.out)⟩
       · rw [if_neg c8] at H
         have c8b0 : ((l1.length : Int) == (((rd_T52 l0 0).f4).length : Int)) = false := beq_eq_false_iff_ne.mpr c8
         have c8b1 : ((l1.length : Int) != (((rd_T52 l0 0).f4).length : Int)) = true := bne_iff_ne.mpr c8
         have c8b2 : (l1.length == ((rd_T52 l0 0).f4).length) = false := by first | simpa using c8 | (simp at c8 ⊢; omega)
         simp only [Option.some.injEq, Prod.mk.injEq] at H
         obtain ⟨rfl, rfl⟩ := H
         go_enter Try.func32, Try.ntmps32
         go_wp2_with (first | ((with_reducible refine gate_callee (f := 27) rfl ?_); refine goesL_ (some 15) rfl rfl Try.func27 (by kernel_rfl) rfl #[.slice A0 l0.length c0] rfl (by (try simp only [List.map_toArray, List.map_cons, List.map_nil]); first | done | rfl | (simp only [List.length_drop, List.length_take]; rfl)) ?_; (with_reducible refine (shares_Check.calls _ _ l0 t209 _ ?side1 ?side2 A3.out).mono ?_); (case side1 => repeat (first | exact HR0.out | (with_reducible refine Kd.C_alloc ?_ _) | (with_reducible refine Kd.C_drewN ?_ _) | (with_reducible refine Kd.C_drew ?_))); (case side2 => exact HC0.out); rintro e w34 ⟨rfl, hb⟩; refine ⟨_, rfl, ?_⟩; have n0_ := Aside0.mk (below_step (by repeat (first | (with_reducible first | exact HB.out | apply below_alloc | apply pw_below_drewN | apply below_drew1) | exact HB.out)) hb); clear HB; have HB := n0_; clear n0_; (try clear hb); (try clear hb2); (try clear hk); (try clear hi); have p210 : 0 ≤ (0 : Int) := (by omega); have q210 : 0 < (l0.length : Int) := of_decide_eq_true (by first | (with_reducible assumption) | assumption); obtain ⟨ad210, A210_4, c210_4, e210, hx210_0, hx210_1, hx210_2, hx210_3, hx210_4, hl210_4, hi210_4⟩ := at_T52 HR0.out 0 p210 q210; cases e210; have qi210 : (0 < l0.length) = True := eq_true (by omega); (try rw [show ((0 : Int)).toNat = 0 from rfl] at hx210_0); (try rw [show 0 * 5 = 0 from rfl] at hx210_0); (try rw [Addr.add_zero'] at hx210_0); (try rw [show ((0 : Int)).toNat = 0 from rfl] at hx210_1); (try rw [show 0 * 5 = 0 from rfl] at hx210_1); (try rw [Addr.add_zero'] at hx210_1); (try rw [show ((0 : Int)).toNat = 0 from rfl] at hx210_2); (try rw [show 0 * 5 = 0 from rfl] at hx210_2); (try rw [Addr.add_zero'] at hx210_2); (try rw [show ((0 : Int)).toNat = 0 from rfl] at hx210_3); (try rw [show 0 * 5 = 0 from rfl] at hx210_3); (try rw [Addr.add_zero'] at hx210_3); (try rw [show ((0 : Int)).toNat = 0 from rfl] at hx210_4); (try rw [show 0 * 5 = 0 from rfl] at hx210_4); (try rw [Addr.add_zero'] at hx210_4); replace hx210_0 := (HB.out.cell (World.block_lt_of_cell? w _ hx210_0)).trans hx210_0; replace hx210_1 := (HB.out.cell (World.block_lt_of_cell? w _ hx210_1)).trans hx210_1; replace hx210_2 := (HB.out.cell (World.block_lt_of_cell? w _ hx210_2)).trans hx210_2; replace hx210_3 := (HB.out.cell (World.block_lt_of_cell? w _ hx210_3)).trans hx210_3; replace hx210_4 := (HB.out.cell (World.block_lt_of_cell? w _ hx210_4)).trans hx210_4; have HR210_4 := Aside0.mk hi210_4; have HC210_4 := Aside0.mk hl210_4; clear hi210_4 hl210_4; replace p210 := eq_true p210; replace q210 := eq_true q210; have p211 : 0 ≤ (0 : Int) := (by omega); have q211 : 0 < (l0.length : Int) := of_decide_eq_true (by first | (with_reducible assumption) | assumption); obtain ⟨ad211, A211_4, c211_4, e211, hx211_0, hx211_1, hx211_2, hx211_3, hx211_4, hl211_4, hi211_4⟩ := at_T52 HR0.out 0 p211 q211; obtain rfl : ad210 = ad211 := (by injection e211); have qi211 : (0 < l0.length) = True := eq_true (by omega); (try rw [show ((0 : Int)).toNat = 0 from rfl] at hx211_0); (try rw [show 0 * 5 = 0 from rfl] at hx211_0); (try rw [Addr.add_zero'] at hx211_0); (try rw [show ((0 : Int)).toNat = 0 from rfl] at hx211_1); (try rw [show 0 * 5 = 0 from rfl] at hx211_1); (try rw [Addr.add_zero'] at hx211_1); (try rw [show ((0 : Int)).toNat = 0 from rfl] at hx211_2); (try rw [show 0 * 5 = 0 from rfl] at hx211_2); (try rw [Addr.add_zero'] at hx211_2); (try rw [show ((0 : Int)).toNat = 0 from rfl] at hx211_3); (try rw [show 0 * 5 = 0 from rfl] at hx211_3); (try rw [Addr.add_zero'] at hx211_3); (try rw [show ((0 : Int)).toNat = 0 from rfl] at hx211_4); (try rw [show 0 * 5 = 0 from rfl] at hx211_4); (try rw [Addr.add_zero'] at hx211_4); replace hx211_0 := (HB.out.cell (World.block_lt_of_cell? w _ hx211_0)).trans hx211_0; replace hx211_1 := (HB.out.cell (World.block_lt_of_cell? w _ hx211_1)).trans hx211_1; replace hx211_2 := (HB.out.cell (World.block_lt_of_cell? w _ hx211_2)).trans hx211_2; replace hx211_3 := (HB.out.cell (World.block_lt_of_cell? w _ hx211_3)).trans hx211_3; replace hx211_4 := (HB.out.cell (World.block_lt_of_cell? w _ hx211_4)).trans hx211_4; have HR211_4 := Aside0.mk hi211_4; have HC211_4 := Aside0.mk hl211_4; clear hi211_4 hl211_4; replace p211 := eq_true p211; replace q211 := eq_true q211; have ea_ := Option.some.inj (hx210_4.symm.trans hx211_4); injection ea_ with ea_ en_ ec_; subst ea_; subst ec_; clear en_))
         go_ret2
         exact ⟨_, by first | rfl | (simp [errW_none, errW_some] <;> rfl) | (simp [*, errW_none, errW_some] <;> rfl), by first | exact Kd.R_nil _ _ _ _ _ | exact Kd.N_nil _ _ _ _ _ | exact Kd.V_nil _ _ _ _ _ | exact Kd.Q_nil _ _ _ _ _ | exact Kd.S_nil _ _ _ _ _, by repeat (first | (with_reducible first | exact HB.out | apply below_alloc | apply pw_below_drewN | apply below_drew1) | exact HB.out)⟩
   · rw [if_neg c5] at H
     exact absurd H (by simp)
 · rw [if_neg c4] at H
   have c4b0 : (t209 == 0) = false := beq_eq_false_iff_ne.mpr c4
   have c4b1 : (t209 != 0) = true := bne_iff_ne.mpr c4
   simp only [Option.some.injEq, Prod.mk.injEq] at H
   obtain ⟨rfl, rfl⟩ := H
   go_enter Try.func32, Try.ntmps32
   go_wp2_with (first | ((with_reducible refine gate_callee (f := 27) rfl ?_); refine goesL_ (some 15) rfl rfl Try.func27 (by kernel_rfl) rfl #[.slice A0 l0.length c0] rfl (by (try simp only [List.map_toArray, List.map_cons, List.map_nil]); first | done | rfl | (simp only [List.length_drop, List.length_take]; rfl)) ?_; (with_reducible refine (shares_Check.calls _ _ l0 t209 _ ?side1 ?side2 A3.out).mono ?_); (case side1 => repeat (first | exact HR0.out | (with_reducible refine Kd.C_alloc ?_ _) | (with_reducible refine Kd.C_drewN ?_ _) | (with_reducible refine Kd.C_drew ?_))); (case side2 => exact HC0.out); rintro e w35 ⟨rfl, hb⟩; refine ⟨_, rfl, ?_⟩; have n0_ := Aside0.mk (below_step (by repeat (first | (with_reducible first | exact HB.out | apply below_alloc | apply pw_below_drewN | apply below_drew1) | exact HB.out)) hb); clear HB; have HB := n0_; clear n0_; (try clear hb); (try clear hb2); (try clear hk); (try clear hi)))
   go_ret2
   exact ⟨_, by first | rfl | (simp [errW_none, errW_some] <;> rfl) | (simp [*, errW_none, errW_some] <;> rfl), by first | exact Kd.R_nil _ _ _ _ _ | exact Kd.N_nil _ _ _ _ _ | exact Kd.V_nil _ _ _ _ _ | exact Kd.Q_nil _ _ _ _ _ | exact Kd.S_nil _ _ _ _ _, by repeat (first | (with_reducible first | exact HB.out | apply below_alloc | apply pw_below_drewN | apply below_drew1) | exact HB.out)⟩
end Go.Proofs.Ytillfbohengpaaa.PA
end
