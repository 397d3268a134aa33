/-
  PLAIN: interpolation, as the program does it (Newton) and as the reference does it (Lagrange): both give the one polynomial.
-/
import Derived.Test.YtillfbohengpaaaGf
set_option linter.unusedVariables false
set_option linter.unusedSimpArgs false
namespace Go.Proofs.Ytillfbohengpaaa.Gf
def g (l : List G) (i : Nat) : G := l.getD i 0#8
theorem g_eq (l : List G) (i : Nat) (h : i < l.length) : g l i = l[i] := by simp [g, h]
theorem g_mem (l : List G) (i : Nat) (h : i < l.length) : g l i ∈ l := by rw [g_eq l i h]; exact List.getElem_mem h
theorem g_ne (xs : List G) (hd : xs.Nodup) (i j : Nat) (hi : i < xs.length) (hj : j < xs.length) (h : i ≠ j) : g xs i ≠ g xs j := by
  rw [g_eq xs i hi, g_eq xs j hj]
  have hp := List.pairwise_iff_getElem.1 hd
  intro e
  rcases Nat.lt_or_gt_of_ne h with l | l
  · exact hp i j hi hj l e
  · exact hp j i hj hi l e.symm
/-- One point more: (zero, l). -/
def nstep (s : List G × List G) (x y : G) : List G × List G :=
  (lin s.1 x 1#8, add (s.2 ++ [0#8]) (scale (mul (y ^^^ ev s.2 x) (inv (ev s.1 x))) s.1))
def ntTo (xs ys : List G) : Nat → List G × List G
  | 0 => ([1#8], [])
  | i + 1 => nstep (ntTo xs ys i) (g xs i) (g ys i)
def coefs (xs ys : List G) : List G := (ntTo xs ys xs.length).2
theorem ntTo_length (xs ys : List G) (i : Nat) : (ntTo xs ys i).1.length = i + 1 ∧ (ntTo xs ys i).2.length = i := by
  induction i with
  | zero => exact ⟨rfl, rfl⟩
  | succ i ih => simp only [ntTo, nstep]; exact ⟨by rw [lin_length, ih.1], by rw [add_length _ _ (by simp [scale, ih.1, ih.2])]; simp [ih.2]⟩
theorem ntTo_spec (xs ys : List G) (hd : xs.Nodup) (i : Nat) (hi : i ≤ xs.length) :
    (∀ j, j < i → ev (ntTo xs ys i).1 (g xs j) = 0#8 ∧ ev (ntTo xs ys i).2 (g xs j) = g ys j) ∧ (∀ x, (∀ j, j < i → x ≠ g xs j) → ev (ntTo xs ys i).1 x ≠ 0#8) := by
  induction i with
  | zero => exact ⟨fun j h => by omega, fun x _ => by simp [ntTo, ev, mul_zero]⟩
  | succ i ih =>
    obtain ⟨h1, h2⟩ := ih (by omega)
    obtain ⟨l1, l2⟩ := ntTo_length xs ys i
    simp only [ntTo, nstep]
    generalize ntTo xs ys i = s at *
    obtain ⟨z, l⟩ := s
    dsimp only at *
    have hz : ev z (g xs i) ≠ 0#8 := h2 _ (fun j hj => g_ne xs hd i j (by omega) (by omega) (by omega))
    have evz : ∀ x, ev (lin z (g xs i) 1#8) x = mul (ev z x) (g xs i ^^^ x) := fun x => by rw [ev_lin, one_mul]
    have evl : ∀ x, ev (add (l ++ [0#8]) (scale (mul (g ys i ^^^ ev l (g xs i)) (inv (ev z (g xs i)))) z)) x = ev l x ^^^ mul (mul (g ys i ^^^ ev l (g xs i)) (inv (ev z (g xs i)))) (ev z x) := fun x => by
      rw [ev_add _ _ (by simp [scale, l1, l2]), ev_scale]
      have := ev_zeros l 1 x
      simp only [List.replicate_succ, List.replicate_zero] at this
      rw [this]
    refine ⟨fun j hj => ?_, fun x hx => ?_⟩
    · rw [evz, evl]
      by_cases e : j = i
      · subst e
        rw [xor_self, mul_zero, ← mul_assoc, inv_mul _ hz, mul_one]
        refine ⟨rfl, ?_⟩
        have : ev l (g xs j) ^^^ (g ys j ^^^ ev l (g xs j)) = g ys j ^^^ (ev l (g xs j) ^^^ ev l (g xs j)) := by ac_rfl
        rw [this]; simp
      · obtain ⟨a, b⟩ := h1 j (by omega)
        rw [a, b, zero_mul, mul_zero]
        simp
    · rw [evz]
      exact mul_ne _ _ (h2 x (fun j hj => hx j (by omega))) (xor_ne _ _ (fun e => hx i (by omega) e.symm))
theorem coefs_length (xs ys : List G) : (coefs xs ys).length = xs.length := (ntTo_length xs ys xs.length).2
theorem coefs_at (xs ys : List G) (hd : xs.Nodup) (j : Nat) (h : j < xs.length) : ev (coefs xs ys) (g xs j) = g ys j :=
  ((ntTo_spec xs ys hd xs.length (Nat.le_refl _)).1 j h).2
/-- Whatever has as many coefficients and the values is the one. -/
theorem coefs_unique (xs ys l : List G) (hd : xs.Nodup) (hl : l.length = xs.length) (h : ∀ j, j < xs.length → ev l (g xs j) = g ys j) : l = coefs xs ys := by
  refine unique l (coefs xs ys) xs (by rw [coefs_length, hl]) (by omega) hd (fun x hm => ?_)
  obtain ⟨j, hj, rfl⟩ := List.mem_iff_getElem.1 hm
  rw [← g_eq xs j hj, h j hj, coefs_at xs ys hd j hj]

/-! ### The value as the programs reckon it: powers, and the sum of the first i terms -/
def pws (x : G) : Nat → G
  | 0 => 1#8
  | i + 1 => mul (pws x i) x
def evTo (l : List G) (x : G) : Nat → G
  | 0 => 0#8
  | i + 1 => evTo l x i ^^^ mul (g l i) (pws x i)
theorem evTo_succ (l : List G) (x : G) (k : Nat) (h : k < l.length) : evTo l x (k + 1) = evTo l x k ^^^ mul l[k] (pws x k) := by rw [evTo, g_eq l k h]
theorem evTo_drop (l : List G) (x : G) (i : Nat) (h : i ≤ l.length) : evTo l x i ^^^ evp (l.drop i) (pws x i) x = ev l x := by
  induction i with
  | zero => simp [evTo, pws, evp_one]
  | succ i ih =>
    rw [← ih (by omega), evTo, pws, BitVec.xor_assoc]
    congr 1
    have hd : l.drop i = l[i] :: l.drop (i + 1) := List.drop_eq_getElem_cons (by omega)
    rw [hd, evp, g_eq l i (by omega)]
theorem evTo_all (l : List G) (x : G) : evTo l x l.length = ev l x := by
  have := evTo_drop l x l.length (Nat.le_refl _)
  simpa [evp] using this

/-! ### The loops that add, and that multiply by (a + b x), coefficient by coefficient -/
def addTo (l m : List G) (j : Nat) : List G := (List.range l.length).map fun i => if i < j then g l i ^^^ g m i else g l i
theorem addTo_length (l m : List G) (j : Nat) : (addTo l m j).length = l.length := by simp [addTo]
theorem addTo_zero (l m : List G) : addTo l m 0 = l := by
  apply List.ext_getElem (by simp [addTo])
  intro i h1 h2
  simp [addTo, g_eq l i h2]
theorem addTo_set (l m : List G) (j : Nat) (hj : j < l.length) (h : j < (addTo l m j).length) : (addTo l m j).set j ((addTo l m j)[j] ^^^ g m j) = addTo l m (j + 1) := by
  apply List.ext_getElem (by simp [addTo])
  intro i h1 h2
  simp only [List.getElem_set]
  by_cases e : j = i
  · subst e; simp [addTo]
  · simp only [e, if_false]
    simp only [addTo, List.getElem_map, List.getElem_range]
    have : i < j ↔ i < j + 1 := by omega
    simp only [this]
theorem addTo_all (l m : List G) (h : l.length = m.length) (j : Nat) (hj : l.length ≤ j) : addTo l m j = add l m := by
  apply List.ext_getElem (by simp [addTo, add, h])
  intro i h1 h2
  have hi : i < l.length := by simpa [addTo] using h1
  simp only [addTo, add, List.getElem_map, List.getElem_range, List.getElem_zipWith]
  rw [if_pos (by omega), g_eq l i hi, g_eq m i (by omega)]
def linTo (l : List G) (a b : G) (j : Nat) : List G :=
  (List.range (l.length + 1)).map fun i => (if i < j then mul (g l i) a else 0#8) ^^^ (if 0 < i ∧ i ≤ j then mul (g l (i - 1)) b else 0#8)
theorem linTo_length (l : List G) (a b : G) (j : Nat) : (linTo l a b j).length = l.length + 1 := by simp [linTo]
theorem linTo_zero (l : List G) (a b : G) : linTo l a b 0 = List.replicate (l.length + 1) 0#8 := by
  apply List.ext_getElem (by simp [linTo])
  intro i h1 h2
  simp only [linTo, List.getElem_map, List.getElem_range, List.getElem_replicate]
  rw [if_neg (by omega), if_neg (by omega)]
  simp
/-- The list in the midst of a round. -/
def linMid (l : List G) (a b : G) (j : Nat) : List G := (linTo l a b j).set j (g (linTo l a b j) j ^^^ mul (g l j) a)
theorem linMid_length (l : List G) (a b : G) (j : Nat) : (linMid l a b j).length = l.length + 1 := by simp [linMid, linTo]
theorem linTo_set (l : List G) (a b : G) (j : Nat) (hj : j < l.length) : (linMid l a b j).set (j + 1) (g (linMid l a b j) (j + 1) ^^^ mul (g l j) b) = linTo l a b (j + 1) := by
  have gl : ∀ i, i < l.length + 1 → g (linTo l a b j) i = (if i < j then mul (g l i) a else 0#8) ^^^ (if 0 < i ∧ i ≤ j then mul (g l (i - 1)) b else 0#8) := fun i hi => by
    rw [g_eq _ i (by rw [linTo_length]; exact hi)]; simp [linTo]
  have gm : g (linMid l a b j) (j + 1) = 0#8 := by
    rw [g_eq _ (j + 1) (by rw [linMid_length]; omega)]
    simp only [linMid, List.getElem_set]
    rw [if_neg (by omega), ← g_eq _ (j + 1) (by rw [linTo_length]; omega), gl _ (by omega), if_neg (by omega), if_neg (by omega)]
    simp
  rw [gm]
  apply List.ext_getElem (by simp [linMid, linTo])
  intro i h1 h2
  have hi : i < l.length + 1 := by rw [linTo_length] at h2; exact h2
  simp only [linMid, List.getElem_set]
  have e2 : (linTo l a b (j + 1))[i] = (if i < j + 1 then mul (g l i) a else 0#8) ^^^ (if 0 < i ∧ i ≤ j + 1 then mul (g l (i - 1)) b else 0#8) := by simp [linTo]
  have e1 : (linTo l a b j)[i]'(by rw [linTo_length]; exact hi) = (if i < j then mul (g l i) a else 0#8) ^^^ (if 0 < i ∧ i ≤ j then mul (g l (i - 1)) b else 0#8) := by simp [linTo]
  rw [e2, e1]
  by_cases c1 : j + 1 = i
  · subst c1
    rw [if_pos rfl, if_neg (by omega), if_pos (by omega)]
    simp
  · rw [if_neg c1]
    by_cases c2 : j = i
    · subst c2
      rw [if_pos rfl, gl _ (by omega), if_pos (show j < j + 1 by omega), if_neg (show ¬ j < j by omega)]
      have : (0 < j ∧ j ≤ j) ↔ (0 < j ∧ j ≤ j + 1) := by omega
      simp only [this]
      rw [BitVec.zero_xor, BitVec.xor_comm]
    · rw [if_neg c2]
      have c3 : i < j ↔ i < j + 1 := by omega
      have c4 : (0 < i ∧ i ≤ j) ↔ (0 < i ∧ i ≤ j + 1) := by omega
      simp only [c3, c4]
theorem linTo_all (l : List G) (a b : G) : linTo l a b l.length = lin l a b := by
  apply List.ext_getElem (by simp [linTo, lin_length])
  intro i h1 h2
  have hi : i < l.length + 1 := by rw [linTo_length] at h1; exact h1
  simp only [lin, add, linTo, List.getElem_map, List.getElem_range, List.getElem_zipWith]
  congr 1
  · by_cases c : i < l.length
    · rw [if_pos c, List.getElem_append_left (by simpa [scale] using c)]
      simp [scale, g_eq l i c, mul_comm]
    · rw [if_neg c, List.getElem_append_right (by simp [scale]; omega)]
      simp
  · cases i with
    | zero => simp
    | succ i =>
      rw [if_pos (by omega)]
      simp [scale, g_eq l i (by omega), mul_comm]

/-! ### Lagrange -/
def over (a b : G) : G := mul a (inv b)
/-- The polynomial of point i behind k rounds. -/
def oneTo (xs ys : List G) (i : Nat) : Nat → List G
  | 0 => [g ys i]
  | k + 1 => if k = i then oneTo xs ys i k else lin (oneTo xs ys i k) (mul (over 1#8 (g xs i ^^^ g xs k)) (g xs k)) (over 1#8 (g xs i ^^^ g xs k))
def lagTo (xs ys : List G) : Nat → List G
  | 0 => List.replicate xs.length 0#8
  | i + 1 => add (lagTo xs ys i) (oneTo xs ys i xs.length)
def oneAt (xs ys : List G) (at_ : G) (i : Nat) : Nat → G
  | 0 => g ys i
  | k + 1 => if k = i then oneAt xs ys at_ i k else mul (oneAt xs ys at_ i k) (over (at_ ^^^ g xs k) (g xs i ^^^ g xs k))
def thrTo (xs ys : List G) (at_ : G) : Nat → G
  | 0 => 0#8
  | i + 1 => thrTo xs ys at_ i ^^^ oneAt xs ys at_ i xs.length
theorem oneTo_length (xs ys : List G) (i k : Nat) : (oneTo xs ys i k).length = k + (if i < k then 0 else 1) := by
  induction k with
  | zero => simp [oneTo]
  | succ k ih =>
    simp only [oneTo]
    split
    · rename_i h; subst h; rw [ih]; simp
    · rw [lin_length, ih]
      by_cases h : i < k
      · rw [if_pos h, if_pos (by omega)]
      · rw [if_neg h, if_neg (by omega)]
theorem oneTo_full (xs ys : List G) (i : Nat) (h : i < xs.length) : (oneTo xs ys i xs.length).length = xs.length := by rw [oneTo_length, if_pos h]; rfl
theorem lagTo_length (xs ys : List G) (i : Nat) (h : i ≤ xs.length) : (lagTo xs ys i).length = xs.length := by
  induction i with
  | zero => simp [lagTo]
  | succ i ih => rw [lagTo, add_length _ _ (by rw [ih (by omega), oneTo_full xs ys i (by omega)]), ih (by omega)]
theorem ev_oneTo (xs ys : List G) (x : G) (i k : Nat) : ev (oneTo xs ys i k) x = oneAt xs ys x i k := by
  induction k with
  | zero => simp [oneTo, oneAt, ev, mul_zero]
  | succ k ih =>
    simp only [oneTo, oneAt]
    split
    · exact ih
    · rw [ev_lin, ih, over, over, one_mul]
      congr 1
      rw [mul_comm (x ^^^ g xs k), mulx, BitVec.xor_comm]
theorem ev_lagTo (xs ys : List G) (x : G) (i : Nat) (h : i ≤ xs.length) : ev (lagTo xs ys i) x = thrTo xs ys x i := by
  induction i with
  | zero =>
    have := ev_zeros [] xs.length x
    simpa [lagTo, thrTo, ev] using this
  | succ i ih =>
    rw [lagTo, ev_add _ _ (by rw [lagTo_length xs ys i (by omega), oneTo_full xs ys i (by omega)]), ih (by omega), ev_oneTo, thrTo]
theorem oneAt_zero (xs ys : List G) (i j : Nat) (hij : j ≠ i) (k : Nat) (h : j < k) : oneAt xs ys (g xs j) i k = 0#8 := by
  induction k with
  | zero => omega
  | succ k ih =>
    simp only [oneAt]
    split
    · rename_i e; exact ih (by omega)
    · by_cases e : j = k
      · subst e; rw [xor_self, over, zero_mul, mul_zero]
      · rw [ih (by omega), zero_mul]
theorem oneAt_self (xs ys : List G) (hd : xs.Nodup) (i : Nat) (hi : i < xs.length) (k : Nat) (h : k ≤ xs.length) : oneAt xs ys (g xs i) i k = g ys i := by
  induction k with
  | zero => rfl
  | succ k ih =>
    simp only [oneAt]
    split
    · exact ih (by omega)
    · rename_i e
      rw [ih (by omega), over, mul_inv _ (xor_ne _ _ (g_ne xs hd i k hi (by omega) (fun e' => e e'.symm))), mul_one]
theorem thrTo_at (xs ys : List G) (hd : xs.Nodup) (j : Nat) (hj : j < xs.length) (i : Nat) (h : i ≤ xs.length) : thrTo xs ys (g xs j) i = if j < i then g ys j else 0#8 := by
  induction i with
  | zero => simp [thrTo]
  | succ i ih =>
    rw [thrTo, ih (by omega)]
    by_cases e : j = i
    · subst e; rw [oneAt_self xs ys hd j hj _ (Nat.le_refl _)]; simp
    · rw [oneAt_zero xs ys i j e _ hj]
      by_cases l : j < i
      · rw [if_pos l, if_pos (by omega)]; simp
      · rw [if_neg l, if_neg (by omega)]; simp
theorem lag_coefs (xs ys : List G) (hd : xs.Nodup) : lagTo xs ys xs.length = coefs xs ys :=
  coefs_unique xs ys _ hd (lagTo_length xs ys _ (Nat.le_refl _)) (fun j hj => by rw [ev_lagTo xs ys _ _ (Nat.le_refl _), thrTo_at xs ys hd j hj _ (Nat.le_refl _), if_pos hj])
theorem thr_coefs (xs ys : List G) (hd : xs.Nodup) (x : G) : thrTo xs ys x xs.length = ev (coefs xs ys) x := by
  rw [← lag_coefs xs ys hd, ev_lagTo xs ys x _ (Nat.le_refl _)]
end Go.Proofs.Ytillfbohengpaaa.Gf
