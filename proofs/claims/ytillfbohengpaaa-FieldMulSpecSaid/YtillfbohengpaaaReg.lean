/-
  A REGION THAT DRAWS ITS ORDER AND ENDS IN OPERATIONS THAT WAIT FOR ALL THE OTHERS: the others are walked as a region of their own (quietly), the last ones in the order of the text.
-/
import Derived.StillTail
import Derived.Lib.QuietBelow
import Derived.Test.YtillfbohengpaaaBase
set_option linter.unusedVariables false
set_option linter.unusedSimpArgs false
namespace Go.Proofs.Ytillfbohengpaaa
open Go.RowKit Go.Sort
def splitB (md : Region.Mode) (ops : Array Oper) (n : Nat) : Bool :=
  ((List.range n).all fun i => match ops[i]? with
    | some o => o.after.all (fun e => decide (e.on < i)) && (match o.guard with | some (j, _) => decide (j < n) | none => true)
    | none => false) &&
  ((List.range ops.size).all fun t => decide (t < n) || (List.range n).all fun i => match ops[t]? with
    | some o => o.after.any (fun e => Region.binds md e && e.on == i)
    | none => false) &&
  Region.seqB md ops (ops.size - n) n (Array.replicate n true ++ Array.replicate (ops.size - n) false)
section
variable {P : Program} {md : Region.Mode} {ops : Array Oper} {n m : Nat}
theorem upon_then (o : Oper) (a : Act) (next X : Act → World → Prop) (Q : Exit → Act → World → Prop) (r : Result Next) :
    o.upon P a next (Exit.then X Q) r = o.upon P a next Q r := by
  cases r with
  | ok x w => cases x <;> rfl
  | halt x w => cases x <;> rfl
theorem wp_then (o : Oper) (a : Act) (w : World) (next X : Act → World → Prop) (Q : Exit → Act → World → Prop) : o.wp P a w next (Exit.then X Q) = o.wp P a w next Q := upon_then ..
theorem getD_left {lh : Array Bool} (hl : lh.size = n) (j : Nat) (hj : j < n) (d : Bool) : (lh ++ Array.replicate m false).getD j d = lh.getD j d := by
  simp only [Array.getD_eq_getD_getElem?]
  rw [Array.getElem?_append_left (by omega)]
theorem getD_right {lh : Array Bool} (hl : lh.size = n) (j : Nat) (hj : n ≤ j) : (lh ++ Array.replicate m false).getD j false = false := by
  simp only [Array.getD_eq_getD_getElem?]
  rw [Array.getElem?_append_right (by omega), Array.getElem?_replicate]
  split <;> rfl
theorem any_split (hsz : ops.size = n + m) (hs : splitB md ops n = true) {Q : Exit → Act → World → Prop} :
    ∀ (f : Nat) (lh : Array Bool) (a : Act) (w : World), lh.size = n → lh.toList.count false = f →
      wpAny P md (ops.extract 0 n) (Exit.then (fun a' w' => wpList P ops Q (ops.toList.drop n) a' w') Q) f lh a w → wpAny P md ops Q (f + m) (lh ++ Array.replicate m false) a w := by
  unfold splitB at hs
  simp only [Bool.and_eq_true, List.all_eq_true, List.mem_range] at hs
  obtain ⟨⟨h1, h2⟩, h3⟩ := hs
  have hm : ops.size - n = m := by omega
  rw [hm] at h3
  have hhead : ∀ i, i < n → (ops.extract 0 n)[i]? = ops[i]? := fun i hi => by
    rw [Array.getElem?_extract]
    simp; omega
  intro f
  induction f with
  | zero =>
    intro lh a w hl hc h
    have hall : lh = Array.replicate n true := by
      apply Array.ext
      · simp [hl]
      · intro i hi _
        have : false ∉ lh.toList := List.count_eq_zero.1 hc
        cases e : lh[i] with
        | true => simp
        | false => exact absurd (by rw [← e]; exact Array.getElem_mem_toList _) this
    have hq : wpList P ops Q (ops.toList.drop n) a w := h.2
    have hlen : (ops.toList.drop n).length = m := by simp; omega
    have := wpAny_of_seq (P := P) (Q' := Q) (ops.toList.drop n) n (Array.replicate n true ++ Array.replicate m false) a w (fun j => by simp) (by rw [hlen]; exact h3) hq
    rw [hlen] at this
    rw [hall, Nat.zero_add]
    exact this
  | succ f ih =>
    intro lh a w hl hc h
    have hex : ∃ i, i < n ∧ lh.getD i true = false := by
      have hmem : false ∈ lh.toList := List.count_pos_iff.1 (by omega)
      obtain ⟨i, hi, e⟩ := List.mem_iff_getElem.1 hmem
      have hi' : i < lh.size := by simpa using hi
      refine ⟨i, by omega, ?_⟩
      simp only [Array.getElem_toList] at e
      simp [Array.getD_eq_getD_getElem?, hi', e]
    have hready : ∀ i, i < n → (i ∈ Region.ready md ops (lh ++ Array.replicate m false) ↔ i ∈ Region.ready md (ops.extract 0 n) lh) := by
      intro i hi
      rw [mem_ready, mem_ready, getD_left hl i hi, hhead i hi]
      have key : ∀ e : Edge, (lh ++ Array.replicate m false).getD e.on false = true ↔ lh.getD e.on false = true := fun e => by
        by_cases he : e.on < n
        · rw [getD_left hl _ he]
        · rw [getD_right hl _ (by omega)]
          simp [Array.getD_eq_getD_getElem?, Array.getElem?_eq_none (show lh.size ≤ e.on by omega)]
      simp only [key]
    have htail : ∀ t, t ∈ Region.ready md ops (lh ++ Array.replicate m false) → t < n := by
      intro t ht
      rcases Nat.lt_or_ge t n with hlt | hge
      · exact hlt
      · obtain ⟨_, o, ho, hall⟩ := mem_ready.1 ht
        have hts : t < ops.size := (Array.getElem?_eq_some_iff.1 ho).1
        obtain ⟨i, hi, hun⟩ := hex
        have h4 := h2 t hts
        simp only [Bool.or_eq_true, decide_eq_true_eq, List.all_eq_true, List.mem_range, ho] at h4
        rcases h4 with h4 | h4
        · omega
        · obtain ⟨e, he, hb⟩ := Array.any_eq_true'.1 (h4 i hi)
          simp only [Bool.and_eq_true, beq_iff_eq] at hb
          have h5 := hall e he hb.1
          rw [hb.2, getD_left hl i hi] at h5
          have : lh.getD i false = false := getD_both hun
          rw [this] at h5; cases h5
    rw [show f + 1 + m = (f + m) + 1 by omega]
    refine ⟨fun h0 => ?_, fun i hi => ?_⟩
    · exfalso
      have hmin : ∀ k i, i ≤ k → i < n → lh.getD i true = false → ∃ j, j ∈ Region.ready md (ops.extract 0 n) lh ∧ j < n := by
        intro k
        induction k with
        | zero =>
          intro i hik hi hun
          obtain rfl : i = 0 := by omega
          have hi0 := h1 0 hi
          have ho : ∃ o, ops[0]? = some o := ⟨ops[0]'(by omega), by simp [show 0 < ops.size by omega]⟩
          obtain ⟨o, ho⟩ := ho
          rw [ho] at hi0
          simp only [Bool.and_eq_true] at hi0
          refine ⟨0, mem_ready.2 ⟨hun, o, by rw [hhead 0 hi]; exact ho, fun e he hb => ?_⟩, hi⟩
          have := Array.all_eq_true'.1 hi0.1 e he
          simp at this
        | succ k ihk =>
          intro i hik hi hun
          by_cases hall : ∀ j, j < i → lh.getD j false = true
          · have hi0 := h1 i hi
            have ho : ∃ o, ops[i]? = some o := ⟨ops[i]'(by omega), by simp [show i < ops.size by omega]⟩
            obtain ⟨o, ho⟩ := ho
            rw [ho] at hi0
            simp only [Bool.and_eq_true] at hi0
            refine ⟨i, mem_ready.2 ⟨hun, o, by rw [hhead i hi]; exact ho, fun e he hb => ?_⟩, hi⟩
            have := Array.all_eq_true'.1 hi0.1 e he
            exact hall _ (by simpa using this)
          · obtain ⟨j, hj⟩ := Classical.not_forall.1 hall
            obtain ⟨hji, hjf⟩ := Classical.not_imp.1 hj
            refine ihk j (by omega) (by omega) ?_
            have hjs : j < lh.size := by omega
            exact getD_in hjs (by simpa using hjf)
      obtain ⟨i, hi, hun⟩ := hex
      obtain ⟨j, hj, hjn⟩ := hmin i i (Nat.le_refl _) hi hun
      rw [← hready j hjn, h0] at hj
      cases hj
    · have hin := htail i hi
      have hih := (hready i hin).1 hi
      have hop := h.2 i hih
      have hset : (lh ++ Array.replicate m false).setIfInBounds i true = lh.setIfInBounds i true ++ Array.replicate m false := by
        rw [Array.setIfInBounds_append_left (by omega)]
      rw [hset]
      have hun := (mem_ready.1 hih).1
      have his : i < lh.size := by omega
      have hcount : (lh.setIfInBounds i true).toList.count false = f := by
        have hli : lh[i] = false := by simpa [Array.getD_eq_getD_getElem?, his] using hun
        rw [Array.toList_setIfInBounds, List.count_set (by simpa using his)]
        simp [hli, hc]
      have hop' : wpOp P (ops.extract 0 n) (Exit.then (fun a' w' => wpList P ops Q (ops.toList.drop n) a' w') Q) i (wpAny P md ops Q (f + m) (lh.setIfInBounds i true ++ Array.replicate m false)) a w :=
        wpOp_mono (fun a' w' h' => ih _ a' w' (by simp [hl]) hcount h') hop
      have hi0 := h1 i hin
      unfold wpOp at hop' ⊢
      rw [hhead i hin] at hop'
      have ho : ∃ o, ops[i]? = some o := ⟨ops[i]'(by omega), by simp [show i < ops.size by omega]⟩
      obtain ⟨o, ho⟩ := ho
      rw [ho] at hop' hi0 ⊢
      simp only [Bool.and_eq_true] at hi0 hop' ⊢
      have hwant : Region.wanted o (yielded (ops.extract 0 n) a.tmps) = Region.wanted o (yielded ops a.tmps) := by
        unfold Region.wanted
        cases hg : o.guard with
        | none => rfl
        | some g =>
          obtain ⟨j, b⟩ := g
          have := hi0.2
          rw [hg] at this
          have hj : j < n := by simpa using this
          dsimp only
          unfold yielded
          rw [hhead j hj]
      rw [hwant] at hop'
      rw [wp_then] at hop'
      exact hop'
theorem wp_region_qt {id : Nat} {Q : Exit → Act → World → Prop} {a : Act} {w : World} {l : List Oper} (n : Nat) (hm : P.follows .mixedOrders = true) (hs : splitB .any l.toArray n = true) (hn : n ≤ l.length)
    (hB : Region.lexB .any (l.take n).toArray = true)
    (h : wpQuiet P (l.take n).toArray (fun w' => ∃ p : Regrown, w' = grow (redrawn w p.d) p.os) (fun a' => ∀ w', Below w.heap.size w w' → wpList P l.toArray Q (l.drop n) a' w') (l.take n) a) : (Code.region id l.toArray true).wp P Q a w := by
  refine wp_region_any hm ?_
  have hsz : l.toArray.size = n + (l.length - n) := by simp; omega
  have hext : l.toArray.extract 0 n = (l.take n).toArray := by simp
  simp only [Region.lexB, Bool.and_eq_true] at hB
  have hlen : (l.take n).length = n := by simp; omega
  have h0 := wpAnyQ_lex (P := P) (C := fun w' => ∃ p : Regrown, w' = grow (redrawn w p.d) p.os) (md := .any) hB.1 (l.take n) 0 (Array.replicate n false) a (by simp) (by rw [← hlen]; simpa [hlen] using hB.2) h
  rw [hlen] at h0
  have h1 := wpAny_of_quiet (P := P) (md := .any) (Q' := Exit.then (fun a' w' => wpList P l.toArray Q (l.toArray.toList.drop n) a' w') Q) (fun a' w' hC hq => by
    obtain ⟨p, rfl⟩ := hC
    exact hq _ (below_regrown w p.d p.os)) n (Array.replicate n false) a { w with drawn := w.drawn + 1 } ⟨⟨w.drawn + 1, #[]⟩, by rw [grow_empty]; rfl⟩ h0
  rw [← hext] at h1
  have h2 := any_split (P := P) (md := .any) hsz hs n (Array.replicate n false) a _ (by simp) (by simp) h1
  rw [← hsz] at h2
  have : Array.replicate n false ++ Array.replicate (l.length - n) false = Array.replicate l.toArray.size false := by
    rw [Array.replicate_append_replicate, hsz]
  rw [this] at h2
  exact h2
end
end Go.Proofs.Ytillfbohengpaaa
