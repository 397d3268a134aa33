/-
  MAPS WITH INTEGER KEYS that the call makes: what a block holds is told by a list of pairs, in the order in which they came in.
-/
import Derived.Test.YtillfbohengpaaaBase
set_option linter.unusedVariables false
set_option linter.unusedSimpArgs false
namespace Go.Proofs.Ytillfbohengpaaa
open Go.RowKit
def mfind : List (Int × Value) → Int → Nat → Option (Nat × Value)
  | [], _, _ => none
  | p :: m, n, i => if n == p.1 then some (i, p.2) else mfind m n (i + 1)
def mget (m : List (Int × Value)) (n : Int) : Option Value := (mfind m n 0).map (·.2)
def mput (m : List (Int × Value)) (n : Int) (v : Value) : List (Int × Value) :=
  match mfind m n 0 with
  | some (i, _) => m.set i (n, v)
  | none => m ++ [(n, v)]
def MapAt (w : World) (b : Nat) (K : IntKind) (m : List (Int × Value)) : Prop :=
  ∃ es clock, w.heap[b]? = some (.map es clock) ∧ es.toList.map (fun e => (e.key, e.val)) = m.map (fun p => (Value.int K p.1, p.2)) ∧
    (∀ e ∈ es.toList, e.born < clock) ∧ es.toList.Pairwise (fun x y => x.born ≠ y.born)
theorem MapAt.lt {w : World} {b : Nat} {K : IntKind} {m : List (Int × Value)} (h : MapAt w b K m) : b < w.heap.size := by
  obtain ⟨es, c, hb, _⟩ := h
  exact (Array.getElem?_eq_some_iff.1 hb).1
theorem MapAt.kept {w w' : World} {b : Nat} {K : IntKind} {m : List (Int × Value)} (h : MapAt w b K m) (hk : w'.heap[b]? = w.heap[b]?) : MapAt w' b K m := by
  obtain ⟨es, c, hb, r⟩ := h
  exact ⟨es, c, hk.trans hb, r⟩
theorem MapAt.below {w w' : World} {b : Nat} {K : IntKind} {m : List (Int × Value)} (h : MapAt w b K m) (hB : Below w.heap.size w w') : MapAt w' b K m := h.kept (hB.block b h.lt)
theorem MapAt.alloc {w : World} {b : Nat} {K : IntKind} {m : List (Int × Value)} (h : MapAt w b K m) (o : Obj) : MapAt (w.alloc o) b K m := h.kept (Below.heap_alloc w o b h.lt)
theorem MapAt.made (w : World) (K : IntKind) : MapAt (w.alloc (.map #[] 0)) w.heap.size K [] :=
  ⟨#[], 0, heap_alloc_new w _, by simp, by simp, by simp⟩
theorem findNow_int (K K' : IntKind) (n : Int) : ∀ (es : List MapEntry) (m : List (Int × Value)) (i : Nat), es.map (fun e => (e.key, e.val)) = m.map (fun p => (Value.int K p.1, p.2)) →
    Instr.findNow (.int K') (.int K n) es i = some (mfind m n i) := by
  intro es
  induction es with
  | nil =>
    intro m i h
    cases m with
    | nil => rfl
    | cons p m => simp at h
  | cons e es ih =>
    intro m i h
    cases m with
    | nil => simp at h
    | cons p m =>
      simp only [List.map_cons, List.cons.injEq, Prod.mk.injEq] at h
      obtain ⟨⟨hk, hv⟩, ht⟩ := h
      unfold Instr.findNow mfind
      rw [hk]
      simp only [Instr.sameNow, if_true]
      cases hq : (n == p.1) with
      | true => simp [hv]
      | false => simp [ih m (i + 1) ht]
theorem mfind_lt (n : Int) : ∀ (m : List (Int × Value)) (i : Nat) (j : Nat) (v : Value), mfind m n i = some (j, v) → i ≤ j ∧ j < i + m.length := by
  intro m
  induction m with
  | nil => intro i j v h; simp [mfind] at h
  | cons p m ih =>
    intro i j v h
    unfold mfind at h
    split at h
    · simp only [Option.some.injEq, Prod.mk.injEq] at h; obtain ⟨rfl, _⟩ := h; simp
    · have := ih _ _ _ h; simp; omega
section
variable {P : Program} {w : World} {b : Nat} {K : IntKind} {m : List (Int × Value)} {t k e : TypeId}
theorem run_findKey_i (hk : P.underlying k = some (.int K)) (es : Array MapEntry) (he : es.toList.map (fun e => (e.key, e.val)) = m.map (fun p => (Value.int K p.1, p.2))) (n : Int) :
    (Instr.findKey k (.int K n) es.toList).run P w = .ok (mfind m n 0) w := by
  unfold Instr.findKey
  simp only [Sem.run_bind, run_underlying hk, Result.andThen_ok, findNow_int K K n es.toList m 0 he, Sem.run_pure]
theorem run_checkKey_i (hk : P.underlying k = some (.int K)) (em : Bool) (n : Int) : (Instr.checkKey em 10000 k (.int K n)).run P w = .ok () w := by
  show (Instr.checkKey em (9999 + 1) k (.int K n)).run P w = .ok () w
  unfold Instr.checkKey
  simp [Sem.run_bind, run_underlying hk]
theorem run_lookup_i (h : MapAt w b K m) (ht : P.underlying t = some (.map k e)) (hk : P.underlying k = some (.int K)) {z : Value} (hz : ∀ w, (zeroValue e).run P w = .ok z w) (n : Int) :
    (Instr.lookup t (.map (some b)) (.int K n) false).run P w = .ok ((mget m n).getD z) w := by
  obtain ⟨es, c, hb, he, _⟩ := h
  unfold Instr.lookup
  simp only [Sem.run_bind, run_underlying ht, Result.andThen_ok, getObj, Sem.run, hb, Sem.run_pure, run_checkKey_i hk, run_findKey_i hk es he]
  unfold mget
  cases mfind m n 0 with
  | none => simp [Sem.run_bind, hz]
  | some p => simp
theorem run_lookup_ok_i (h : MapAt w b K m) (ht : P.underlying t = some (.map k e)) (hk : P.underlying k = some (.int K)) {z : Value} (hz : ∀ w, (zeroValue e).run P w = .ok z w) (n : Int) :
    (Instr.lookup t (.map (some b)) (.int K n) true).run P w = .ok (.tuple #[(mget m n).getD z, .bool (mget m n).isSome]) w := by
  obtain ⟨es, c, hb, he, _⟩ := h
  unfold Instr.lookup
  simp only [Sem.run_bind, run_underlying ht, Result.andThen_ok, getObj, Sem.run, hb, Sem.run_pure, run_checkKey_i hk, run_findKey_i hk es he]
  unfold mget
  cases mfind m n 0 with
  | none => simp [Sem.run_bind, hz]
  | some p => simp
theorem run_update_i (h : MapAt w b K m) (ht : P.underlying t = some (.map k e)) (hk : P.underlying k = some (.int K)) (n : Int) (v : Value) :
    ∃ w', (Instr.mapUpdate t (.map (some b)) (.int K n) v).run P w = .ok () w' ∧ MapAt w' b K (mput m n v) ∧ w.grownBy w' (some b) := by
  obtain ⟨es, c, hb, he, hc, hp⟩ := h
  have hlt := (Array.getElem?_eq_some_iff.1 hb).1
  have put : ∀ o : Obj, ∀ i, i < w.heap.size → some i ≠ some b → ({ w with heap := w.heap.setIfInBounds b o } : World).heap[i]? = w.heap[i]? := fun o i hi hne => by
    simp only [Array.getElem?_setIfInBounds]
    rw [if_neg (fun e => hne (by rw [e]))]
  have hlen : es.toList.length = m.length := by have := congrArg List.length he; simpa using this
  unfold Instr.mapUpdate mput
  simp only [Sem.run_bind, run_underlying ht, Result.andThen_ok, getObj, Sem.run, hb, Sem.run_pure, run_checkKey_i hk, run_findKey_i hk es he]
  cases hq : mfind m n 0 with
  | none =>
    simp only [setObj, Sem.run, hb]
    refine ⟨_, rfl, ⟨es.push { key := .int K n, val := v, born := c }, c + 1, by simp [Array.getElem?_setIfInBounds, hlt], ?_, ?_, ?_⟩, ⟨rfl, rfl, rfl, by simp, fun i hi hne => put _ i hi hne⟩⟩
    · simp [he]
    · intro x hx
      simp only [Array.toList_push, List.mem_append, List.mem_singleton] at hx
      rcases hx with hx | rfl
      · have := hc x hx; omega
      · simp
    · simp only [Array.toList_push, List.pairwise_append, List.pairwise_cons, List.not_mem_nil, false_imp_iff, implies_true, List.Pairwise.nil, and_self, List.mem_singleton, forall_eq, true_and]
      exact ⟨hp, fun x hx => by have := hc x hx; omega⟩
  | some p =>
    obtain ⟨i, v0⟩ := p
    have hi := (mfind_lt n m 0 i v0 hq).2
    have hik : ∃ x, es[i]? = some x ∧ x.key = .int K n := by
      have hi' : i < es.size := by simp at hlen; omega
      refine ⟨es[i], by simp [hi'], ?_⟩
      have hkey : ∀ (m : List (Int × Value)) (j i : Nat) (v : Value), mfind m n j = some (i, v) → ∃ q, m[i - j]? = some q ∧ q.1 = n := by
        intro m
        induction m with
        | nil => intro j i v h; simp [mfind] at h
        | cons p m ih =>
          intro j i v h
          unfold mfind at h
          split at h
          · rename_i hn
            simp only [Option.some.injEq, Prod.mk.injEq] at h
            obtain ⟨rfl, _⟩ := h
            exact ⟨p, by simp, by simpa using (eq_of_beq hn).symm⟩
          · have hl := mfind_lt n m (j + 1) i v h
            obtain ⟨q, hq, hn⟩ := ih _ _ _ h
            refine ⟨q, ?_, hn⟩
            have : i - j = (i - (j + 1)) + 1 := by omega
            rw [this]; simpa using hq
      obtain ⟨q, hq1, hq2⟩ := hkey m 0 i v0 hq
      have h1 : (es.toList.map (fun e => (e.key, e.val)))[i]? = (m.map (fun p => (Value.int K p.1, p.2)))[i]? := by rw [he]
      simp only [Nat.sub_zero] at hq1
      simp only [List.getElem?_map, hq1, Option.map_some, Array.getElem?_toList] at h1
      have h2 : es[i]? = some es[i] := by simp [hi']
      rw [h2] at h1
      simp only [Option.map_some, Option.some.injEq, Prod.mk.injEq] at h1
      rw [h1.1, hq2]
    obtain ⟨x, hx, hxk⟩ := hik
    simp only [hx, Option.map_some, Option.getD_some, hxk]
    have hstay : (Instr.keyThatStays (.int K n) (.int K n)).run P w = .ok (.int K n) w := by
      unfold Instr.keyThatStays
      have : Instr.sameBits 10000 (.int K n) (.int K n) = true := by
        show Instr.sameBits (9999 + 1) _ _ = true
        unfold Instr.sameBits
        simp
      simp [this]
    simp only [hstay, Sem.run_bind, Result.andThen_ok, setObj, Sem.run, hb]
    have hborn : (es.modify i fun e => { e with key := .int K n, val := v }).toList.map (·.born) = es.toList.map (·.born) := by
      apply List.ext_getElem?
      intro j
      simp only [List.getElem?_map, Array.getElem?_toList, Array.getElem?_modify]
      split
      · cases es[j]? <;> rfl
      · rfl
    refine ⟨_, rfl, ⟨es.modify i fun e => { e with key := .int K n, val := v }, c, by simp [Array.getElem?_setIfInBounds, hlt], ?_, ?_, ?_⟩, ⟨rfl, rfl, rfl, by simp, fun i hi hne => put _ i hi hne⟩⟩
    · apply List.ext_getElem?
      intro j
      have hj := congrArg (fun l => l[j]?) he
      simp only [List.getElem?_map, Array.getElem?_toList] at hj
      simp only [List.getElem?_map, Array.getElem?_toList, Array.getElem?_modify, List.getElem?_set]
      by_cases e : i = j
      · subst e
        simp only [if_true, hx, Option.map_some]
        rw [if_pos (by omega)]
        rfl
      · simp only [e, if_false]
        exact hj
    · intro y hy
      have : y.born ∈ (es.modify i fun e => { e with key := .int K n, val := v }).toList.map (·.born) := List.mem_map.2 ⟨y, hy, rfl⟩
      rw [hborn] at this
      obtain ⟨z, hz, hzb⟩ := List.mem_map.1 this
      rw [← hzb]
      exact hc z hz
    · have h1 : (es.toList.map (·.born)).Pairwise (fun x y => x ≠ y) := List.pairwise_map.2 hp
      rw [← hborn] at h1
      exact List.pairwise_map.1 h1
end
end Go.Proofs.Ytillfbohengpaaa
