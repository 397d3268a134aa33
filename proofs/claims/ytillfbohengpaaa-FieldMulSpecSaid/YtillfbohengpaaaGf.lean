/-
  PLAIN: the field with 256 elements, its polynomials (lists of coefficients, the lowest first), and interpolation. No Go and no program in it.
-/
set_option linter.unusedVariables false
set_option linter.unusedSimpArgs false
namespace Go.Proofs.Ytillfbohengpaaa.Gf
abbrev G := BitVec 8
/-- The product with 2. -/
def tw (x : G) : G := if x.msb then (x <<< 1) ^^^ 27#8 else x <<< 1
theorem tw_xor (x y : G) : tw (x ^^^ y) = tw x ^^^ tw y := by
  unfold tw
  rw [BitVec.msb_xor, BitVec.shiftLeft_xor_distrib]
  generalize x <<< 1 = p
  generalize y <<< 1 = q
  have e : p ^^^ 27#8 ^^^ (q ^^^ 27#8) = p ^^^ q := by
    have : p ^^^ 27#8 ^^^ (q ^^^ 27#8) = p ^^^ q ^^^ (27#8 ^^^ 27#8) := by ac_rfl
    rw [this]; simp
  have f : p ^^^ 27#8 ^^^ q = p ^^^ q ^^^ 27#8 := by ac_rfl
  cases x.msb <;> cases y.msb
  · simp
  · simp only [Bool.false_bne, if_true, Bool.false_eq_true, if_false]; ac_rfl
  · simp only [Bool.true_bne, Bool.not_false, if_true, Bool.false_eq_true, if_false]; rw [f]
  · simp only [bne_self_eq_false, if_true, Bool.false_eq_true, if_false]; rw [e]
def pw : Nat → G → G
  | 0, a => a
  | n + 1, a => tw (pw n a)
theorem pw_xor (n : Nat) (x y : G) : pw n (x ^^^ y) = pw n x ^^^ pw n y := by
  induction n with
  | zero => rfl
  | succ n ih => simp [pw, ih, tw_xor]
/-- The first n terms of the product. -/
def gpart (a b : G) : Nat → G
  | 0 => 0#8
  | n + 1 => if b.getLsbD n then gpart a b n ^^^ pw n a else gpart a b n
def mul (a b : G) : G := gpart a b 8
theorem part_left (x y b : G) (n : Nat) : gpart (x ^^^ y) b n = gpart x b n ^^^ gpart y b n := by
  induction n with
  | zero => simp [gpart]
  | succ n ih =>
    simp only [gpart, ih, pw_xor]
    split <;> ac_rfl
theorem part_right (a x y : G) (n : Nat) : gpart a (x ^^^ y) n = gpart a x n ^^^ gpart a y n := by
  induction n with
  | zero => simp [gpart]
  | succ n ih =>
    simp only [gpart, ih, BitVec.getLsbD_xor]
    have e : gpart a x n ^^^ pw n a ^^^ (gpart a y n ^^^ pw n a) = gpart a x n ^^^ gpart a y n := by
      have : gpart a x n ^^^ pw n a ^^^ (gpart a y n ^^^ pw n a) = gpart a x n ^^^ gpart a y n ^^^ (pw n a ^^^ pw n a) := by ac_rfl
      rw [this]; simp
    cases x.getLsbD n <;> cases y.getLsbD n <;> simp [e] <;> ac_rfl
theorem xmul (x y b : G) : mul (x ^^^ y) b = mul x b ^^^ mul y b := part_left x y b 8
theorem mulx (a x y : G) : mul a (x ^^^ y) = mul a x ^^^ mul a y := part_right a x y 8
/-- Two additive functions that agree on the eight bits are one. -/
theorem bits_ext (f g : G → G) (hf : ∀ x y, f (x ^^^ y) = f x ^^^ f y) (hg : ∀ x y, g (x ^^^ y) = g x ^^^ g y)
    (h : ∀ i : Fin 8, f (1#8 <<< i.val) = g (1#8 <<< i.val)) (x : G) : f x = g x := by
  have z : ∀ k : G → G, (∀ x y, k (x ^^^ y) = k x ^^^ k y) → k 0#8 = 0#8 := fun k hk => by
    have := hk 0#8 0#8
    simp at this
    exact this
  have step : ∀ (i : Fin 8) (b : Bool), f (if b then 1#8 <<< i.val else 0#8) = g (if b then 1#8 <<< i.val else 0#8) := fun i b => by
    cases b
    · simp [z f hf, z g hg]
    · simpa using h i
  have e : ∀ x : G, x = (if x.getLsbD 0 then 1#8 <<< 0 else 0#8) ^^^ ((if x.getLsbD 1 then 1#8 <<< 1 else 0#8) ^^^ ((if x.getLsbD 2 then 1#8 <<< 2 else 0#8) ^^^ ((if x.getLsbD 3 then 1#8 <<< 3 else 0#8) ^^^ ((if x.getLsbD 4 then 1#8 <<< 4 else 0#8) ^^^ ((if x.getLsbD 5 then 1#8 <<< 5 else 0#8) ^^^ ((if x.getLsbD 6 then 1#8 <<< 6 else 0#8) ^^^ (if x.getLsbD 7 then 1#8 <<< 7 else 0#8))))))) := by decide +kernel
  rw [e x]
  simp only [hf, hg]
  have s0 := step 0 (x.getLsbD 0); have s1 := step 1 (x.getLsbD 1); have s2 := step 2 (x.getLsbD 2); have s3 := step 3 (x.getLsbD 3)
  have s4 := step 4 (x.getLsbD 4); have s5 := step 5 (x.getLsbD 5); have s6 := step 6 (x.getLsbD 6); have s7 := step 7 (x.getLsbD 7)
  simp only [Fin.isValue, Fin.val_zero, Fin.val_one, Fin.val_two, Fin.val_ofNat] at s0 s1 s2 s3 s4 s5 s6 s7
  exact congr (congrArg _ s0) (congr (congrArg _ s1) (congr (congrArg _ s2) (congr (congrArg _ s3) (congr (congrArg _ s4) (congr (congrArg _ s5) (congr (congrArg _ s6) s7))))))
theorem mul_comm (a b : G) : mul a b = mul b a := by
  refine bits_ext (fun x => mul x b) (fun x => mul b x) (fun x y => xmul x y b) (fun x y => mulx b x y) (fun i => ?_) a
  refine bits_ext (fun y => mul (1#8 <<< i.val) y) (fun y => mul y (1#8 <<< i.val)) (fun x y => mulx _ x y) (fun x y => xmul x y _) (fun j => ?_) b
  revert i j
  decide +kernel
theorem mul_assoc (a b c : G) : mul a (mul b c) = mul (mul a b) c := by
  refine bits_ext (fun x => mul x (mul b c)) (fun x => mul (mul x b) c) (fun x y => xmul x y _) (fun x y => by simp only [xmul]) (fun i => ?_) a
  refine bits_ext (fun y => mul (1#8 <<< i.val) (mul y c)) (fun y => mul (mul (1#8 <<< i.val) y) c) (fun x y => by simp only [xmul, mulx]) (fun x y => by simp only [xmul, mulx]) (fun j => ?_) b
  refine bits_ext (fun z => mul (1#8 <<< i.val) (mul (1#8 <<< j.val) z)) (fun z => mul (mul (1#8 <<< i.val) (1#8 <<< j.val)) z) (fun x y => by simp only [mulx]) (fun x y => by simp only [mulx]) (fun k => ?_) c
  revert i j k
  decide +kernel
theorem mul_zero (a : G) : mul a 0#8 = 0#8 := by
  have := mulx a 0#8 0#8
  simp at this
  exact this
theorem zero_mul (a : G) : mul 0#8 a = 0#8 := by rw [mul_comm, mul_zero]
theorem mul_one (a : G) : mul a 1#8 = a := by revert a; decide +kernel
theorem one_mul (a : G) : mul 1#8 a = a := by rw [mul_comm, mul_one]
theorem mul_two (a : G) : mul a 2#8 = tw a := by revert a; decide +kernel
/-- The pair (a, b) behind n rounds of the inverse's loop. -/
def invTo (a : G) : Nat → G × G
  | 0 => (a, 1#8)
  | n + 1 => let p := invTo a n; (mul p.1 p.1, mul p.2 (mul p.1 p.1))
def inv (a : G) : G := (invTo a 7).2
set_option maxRecDepth 100000 in
theorem mul_inv (a : G) (h : a ≠ 0#8) : mul a (inv a) = 1#8 := by revert a; decide +kernel
theorem inv_mul (a : G) (h : a ≠ 0#8) : mul (inv a) a = 1#8 := by rw [mul_comm, mul_inv a h]
theorem inv_ne (a : G) (h : a ≠ 0#8) : inv a ≠ 0#8 := fun e => by
  have := mul_inv a h
  rw [e, mul_zero] at this
  exact absurd this (by decide)
theorem mul_eq_zero (a b : G) (h : mul a b = 0#8) : a = 0#8 ∨ b = 0#8 := by
  by_cases ha : a = 0#8
  · exact .inl ha
  · right
    have : mul (inv a) (mul a b) = b := by rw [mul_assoc, inv_mul a ha, one_mul]
    rw [← this, h, mul_zero]
theorem mul_ne (a b : G) (ha : a ≠ 0#8) (hb : b ≠ 0#8) : mul a b ≠ 0#8 := fun h => by
  rcases mul_eq_zero a b h with h | h
  · exact ha h
  · exact hb h
/-- The one inverse. -/
theorem inv_unique (a b : G) (h : mul a b = 1#8) : b = inv a := by
  have ha : a ≠ 0#8 := fun e => by rw [e, zero_mul] at h; exact absurd h (by decide)
  have : mul (inv a) (mul a b) = b := by rw [mul_assoc, inv_mul a ha, one_mul]
  rw [← this, h, mul_one]
theorem inv_inv (a : G) (h : a ≠ 0#8) : inv (inv a) = a := (inv_unique _ _ (inv_mul a h)).symm
theorem xor_eq_zero (a b : G) : a ^^^ b = 0#8 ↔ a = b := by
  constructor
  · intro h
    have : a ^^^ b ^^^ b = b := by rw [h]; simp
    rw [BitVec.xor_assoc] at this
    simpa using this
  · rintro rfl; simp
theorem xor_ne (a b : G) (h : a ≠ b) : a ^^^ b ≠ 0#8 := fun e => h ((xor_eq_zero a b).1 e)
theorem xor_self (a : G) : a ^^^ a = 0#8 := by simp
theorem xor_cancel (a b : G) : a ^^^ b ^^^ b = a := by rw [BitVec.xor_assoc]; simp

/-! ### Polynomials -/
def ev : List G → G → G
  | [], _ => 0#8
  | c :: l, x => c ^^^ mul x (ev l x)
/-- What the sums of powers come to, from the power p on. -/
def evp : List G → G → G → G
  | [], _, _ => 0#8
  | c :: l, p, x => mul c p ^^^ evp l (mul p x) x
theorem evp_eq (l : List G) (x : G) : ∀ p, evp l p x = mul p (ev l x) := by
  induction l with
  | nil => intro p; simp [evp, ev, mul_zero]
  | cons c l ih => intro p; simp [evp, ev, ih, mulx, mul_assoc, mul_comm c p]
theorem evp_one (l : List G) (x : G) : evp l 1#8 x = ev l x := by rw [evp_eq, one_mul]
theorem ev_zero (l : List G) : ev l 0#8 = l.headD 0#8 := by cases l <;> simp [ev, zero_mul]
def power (x : G) : Nat → G
  | 0 => 1#8
  | n + 1 => mul x (power x n)
theorem ev_append (l m : List G) (x : G) : ev (l ++ m) x = ev l x ^^^ mul (power x l.length) (ev m x) := by
  induction l with
  | nil => simp [ev, power, one_mul]
  | cons c l ih => simp [ev, ih, power, mulx, mul_assoc, BitVec.xor_assoc]
theorem ev_zeros (l : List G) (n : Nat) (x : G) : ev (l ++ List.replicate n 0#8) x = ev l x := by
  have z : ev (List.replicate n 0#8) x = 0#8 := by
    induction n with
    | zero => rfl
    | succ n ih => simp [List.replicate_succ, ev, ih, mul_zero]
  rw [ev_append, z, mul_zero]; simp
/-- The sum, coefficient by coefficient (of lists of one length). -/
def add (l m : List G) : List G := List.zipWith (fun a b => a ^^^ b) l m
theorem ev_add : ∀ (l m : List G), l.length = m.length → ∀ x, ev (add l m) x = ev l x ^^^ ev m x
  | [], [], _, x => by simp [add, ev]
  | a :: l, b :: m, h, x => by
    have ih := ev_add l m (by simpa using h) x
    simp only [add] at ih
    simp only [add, List.zipWith_cons_cons, ev, ih, mulx]
    ac_rfl
theorem add_length (l m : List G) (h : l.length = m.length) : (add l m).length = l.length := by simp [add, h]
def scale (c : G) (l : List G) : List G := l.map (mul c)
theorem ev_scale (c : G) (l : List G) (x : G) : ev (scale c l) x = mul c (ev l x) := by
  induction l with
  | nil => simp [scale, ev, mul_zero]
  | cons a l ih =>
    simp only [scale] at ih
    simp only [scale, List.map_cons, ev, ih, mulx]
    rw [mul_assoc, mul_comm x c, ← mul_assoc]
/-- The product with (a + b x). -/
def lin (l : List G) (a b : G) : List G := add (scale a l ++ [0#8]) (0#8 :: scale b l)
theorem lin_length (l : List G) (a b : G) : (lin l a b).length = l.length + 1 := by simp [lin, add, scale]
theorem ev_lin (l : List G) (a b x : G) : ev (lin l a b) x = mul (ev l x) (a ^^^ mul b x) := by
  rw [lin, ev_add _ _ (by simp [scale])]
  have h1 : ev (scale a l ++ [0#8]) x = mul a (ev l x) := by
    have := ev_zeros (scale a l) 1 x
    simp only [List.replicate_succ, List.replicate_zero] at this
    rw [this, ev_scale]
  rw [h1]
  simp only [ev, ev_scale, mulx]
  rw [mul_comm (ev l x) a, mul_comm (ev l x) (mul b x), mul_assoc x b, mul_comm x b]
  simp

/-! ### A polynomial with more roots than its degree is zero. The coefficients stand here with the highest first. -/
def hs (x : G) (s c : G) : G := mul s x ^^^ c
def evr (l : List G) (x : G) : G := l.foldl (hs x) 0#8
theorem evr_snoc (l : List G) (c x : G) : evr (l ++ [c]) x = mul (evr l x) x ^^^ c := by simp [evr, hs]
theorem ev_reverse (l : List G) (x : G) : ev l x = evr l.reverse x := by
  induction l with
  | nil => rfl
  | cons c l ih => rw [List.reverse_cons, evr_snoc, ← ih, ev, mul_comm, BitVec.xor_comm]
/-- Division by (x + r): the quotient, the remainder. -/
def dv (r : G) : G → List G → List G × G
  | a, [] => ([], a)
  | a, c :: l => (a :: (dv r (c ^^^ mul r a) l).1, (dv r (c ^^^ mul r a) l).2)
theorem dv_length (r : G) (l : List G) : ∀ a, (dv r a l).1.length = l.length := by
  induction l with
  | nil => intro a; rfl
  | cons c l ih => intro a; simp [dv, ih]
theorem dv_spec (r x : G) (l : List G) : ∀ (a s : G), l.foldl (hs x) (mul s (x ^^^ r) ^^^ a) = mul ((dv r a l).1.foldl (hs x) s) (x ^^^ r) ^^^ (dv r a l).2 := by
  induction l with
  | nil => intro a s; rfl
  | cons c l ih =>
    intro a s
    simp only [dv, List.foldl_cons]
    rw [← ih]
    congr 1
    simp only [hs, mulx, xmul]
    have e : mul a x ^^^ c = mul a x ^^^ mul a r ^^^ (c ^^^ mul r a) := by
      rw [mul_comm r a]
      have : mul a x ^^^ mul a r ^^^ (c ^^^ mul a r) = mul a x ^^^ c ^^^ (mul a r ^^^ mul a r) := by ac_rfl
      rw [this]; simp
    have e2 : mul (mul s r) x = mul (mul s x) r := by rw [← mul_assoc, ← mul_assoc, mul_comm r x]
    rw [e2]
    have : mul (mul s x) x ^^^ mul (mul s x) r ^^^ mul a x ^^^ c = mul (mul s x) x ^^^ mul (mul s x) r ^^^ (mul a x ^^^ c) := by ac_rfl
    rw [this, e]
    ac_rfl
theorem dv_zero (r : G) (l : List G) : ∀ a, (∀ q ∈ (dv r a l).1, q = 0#8) → (dv r a l).2 = 0#8 → a = 0#8 ∧ ∀ c ∈ l, c = 0#8 := by
  induction l with
  | nil => intro a _ h; exact ⟨h, by simp⟩
  | cons c l ih =>
    intro a h1 h2
    simp only [dv, List.mem_cons, forall_eq_or_imp] at h1 h2
    have ha := h1.1
    subst ha
    obtain ⟨hc, hl⟩ := ih _ h1.2 h2
    simp only [mul_zero, BitVec.xor_zero] at hc
    exact ⟨rfl, by simpa [hc] using hl⟩
theorem roots : ∀ (n : Nat) (l : List G) (xs : List G), l.length = n → n ≤ xs.length → xs.Nodup → (∀ x ∈ xs, evr l x = 0#8) → ∀ c ∈ l, c = 0#8
  | 0, l, xs, hl, _, _, _ => by
    have : l = [] := List.eq_nil_of_length_eq_zero hl
    simp [this]
  | n + 1, [], _, hl, _, _, _ => by simp at hl
  | n + 1, a :: l, [], _, hx, _, _ => by simp at hx
  | n + 1, a :: l, r :: xs, hl, hx, hd, hr => by
    have sp : ∀ x, evr (a :: l) x = mul (evr (dv r a l).1 x) (x ^^^ r) ^^^ (dv r a l).2 := fun x => by
      have := dv_spec r x l a 0#8
      simp only [zero_mul, BitVec.zero_xor] at this
      simp only [evr, List.foldl_cons, hs, zero_mul, BitVec.zero_xor]
      exact this
    have rem : (dv r a l).2 = 0#8 := by
      have := hr r (by simp)
      rw [sp] at this
      simpa [mul_zero] using this
    have hd' := List.nodup_cons.1 hd
    have hq := roots n (dv r a l).1 xs (by rw [dv_length]; simpa using hl) (by simpa using hx) hd'.2 (fun x hm => by
      have h0 := hr x (by simp [hm])
      rw [sp, rem, BitVec.xor_zero] at h0
      rcases mul_eq_zero _ _ h0 with h | h
      · exact h
      · rw [xor_eq_zero] at h
        subst h
        exact absurd hm hd'.1)
    obtain ⟨ha, hl'⟩ := dv_zero r l a hq rem
    simpa [ha] using hl'
/-- TWO POLYNOMIALS OF ONE LENGTH n THAT AGREE AT n PLACES ARE ONE. -/
theorem unique (l m xs : List G) (hl : l.length = m.length) (hx : l.length ≤ xs.length) (hd : xs.Nodup) (h : ∀ x ∈ xs, ev l x = ev m x) : l = m := by
  have hz := roots (add l m).length (add l m).reverse xs (by simp) (by rw [add_length _ _ hl]; exact hx) hd (fun x hm => by
    rw [← ev_reverse, ev_add l m hl, h x hm, xor_self])
  apply List.ext_getElem hl
  intro i h1 h2
  have hm : l[i] ^^^ m[i] ∈ add l m := by
    refine List.mem_iff_getElem.2 ⟨i, by rw [add_length _ _ hl]; exact h1, by simp [add]⟩
  exact (xor_eq_zero _ _).1 (hz _ (by simpa using hm))
end Go.Proofs.Ytillfbohengpaaa.Gf
