/-
  SLICES OF THE CALL's OWN, elements of one cell: what they hold, told by a list.
-/
import Derived.OwnWalk
import Derived.Test.YtillfbohengpaaaBase
set_option linter.unusedVariables false
set_option linter.unusedSimpArgs false
namespace Go.Proofs.Ytillfbohengpaaa
open Go.RowKit
/-- v has n elements, is nil or lies at the head of a block of the call's own (from base on), and reads as l. -/
def OwnL {α : Type} (enc : α → Value) (E : TypeId) (w : World) (base : Nat) (v : Value) (n : Nat) (l : List α) : Prop := w.ownsRow base E 1 v n (l.map enc)
section
variable {α : Type} {enc : α → Value} {E : TypeId} {w w' : World} {base : Nat} {v : Value} {n : Nat} {l : List α}
theorem OwnL.nil (enc : α → Value) (E : TypeId) (w : World) (base : Nat) : OwnL enc E w base (.slice none 0 0) 0 [] := World.ownsRow_nil w base E 1
theorem OwnL.length (h : OwnL enc E w base v n l) : l.length = n := by have := h.1; simpa using this
theorem OwnL.form (h : OwnL enc E w base v n l) (hl : 0 < n) : ∃ g cap, v = .slice (some ⟨g, 0, none⟩) n cap ∧ base ≤ g ∧ g < w.heap.size := by
  rcases h.2 with ⟨_, h1⟩ | ⟨g, cap, cur, rfl, hb, hg, _⟩
  · omega
  · exact ⟨g, cap, rfl, hb, (Array.getElem?_eq_some_iff.1 hg).1⟩
theorem OwnL.any (h : OwnL enc E w base v n l) : ∃ A cap, v = .slice A n cap ∧ n ≤ cap := by
  rcases h.2 with ⟨rfl, h1⟩ | ⟨g, cap, cur, rfl, hb, hg, hc, _⟩
  · exact ⟨none, 0, by rw [h1], by omega⟩
  · exact ⟨_, cap, rfl, hc⟩
theorem OwnL.len (h : OwnL enc E w base v n l) : n ≤ 9223372036854775807 := by
  rcases h.2 with ⟨rfl, h1⟩ | ⟨g, cap, cur, rfl, hb, hg, hc, hm, _⟩
  · omega
  · simp only [maxLen] at hm; omega
theorem OwnL.cell {g cap : Nat} (h : OwnL enc E w base (.slice (some ⟨g, 0, none⟩) n cap) n l) (j : Nat) (hj : j < l.length) : w.cell? ⟨g, j, none⟩ = some (enc l[j]) := by
  have := World.ownsRow.cellAt h j (by have := h.length; omega)
  rw [this]; simp [hj]
theorem OwnL.free {g cap : Nat} (h : OwnL enc E w base (.slice (some ⟨g, 0, none⟩) n cap) n l) (j : Nat) : w.frozen? ⟨g, j, none⟩ = false := World.ownsRow.frozenAt h j
theorem OwnL.set {g cap : Nat} (h : OwnL enc E w base (.slice (some ⟨g, 0, none⟩) n cap) n l) (j : Nat) (x : α) :
    OwnL enc E (w.setCell ⟨g, j, none⟩ (enc x)) base (.slice (some ⟨g, 0, none⟩) n cap) n (l.set j x) := by
  have := (World.ownsRow.stored h j (enc x)).1
  unfold OwnL
  rw [List.map_set]
  exact this
theorem OwnL.kept (h : OwnL enc E w base v n l) {row : Option Nat} (hg : w.grownBy w' row) (hne : v.ownBlock = none ∨ v.ownBlock ≠ row) : OwnL enc E w' base v n l := World.ownsRow.kept h hg hne
theorem OwnL.below (h : OwnL enc E w base v n l) (hb : Below w.heap.size w w') : OwnL enc E w' base v n l := World.ownsRow.kept h (grown_of_below hb none) (by cases hv : v.ownBlock <;> simp)
theorem OwnL.alloc (h : OwnL enc E w base v n l) (o : Obj) : OwnL enc E (w.alloc o) base v n l := World.ownsRow.alloc h o
theorem OwnL.lt (h : OwnL enc E w base v n l) : ∀ k, v.ownBlock = some k → base ≤ k ∧ k < w.heap.size := World.ownsRow.lt h
theorem OwnL.setOther (h : OwnL enc E w base v n l) (a : Addr) (u : Value) (hne : v.ownBlock ≠ some a.block) : OwnL enc E (w.setCell a u) base v n l := by
  refine World.ownsRow.kept (row := some a.block) h ⟨rfl, rfl, rfl, by simp [World.setCell], fun k hk hk2 => Below.heap_setCell _ _ _ _ (fun e => hk2 (by rw [e]))⟩ (.inr hne)
theorem OwnL.rlg {g cap : Nat} (h : OwnL enc E w base (.slice (some ⟨g, 0, none⟩) n cap) n l) : RL enc w (some ⟨g, 0, none⟩) n l :=
  ⟨h.length, h.len, fun j hj => ⟨g, 0, rfl, (h.lt g rfl).2, by rw [Nat.zero_add]; exact h.cell j hj⟩⟩
theorem OwnL.rl (h : OwnL enc E w base v n l) : ∃ A cap, v = .slice A n cap ∧ RL enc w A n l := by
  by_cases hl : 0 < n
  · obtain ⟨g, cap, rfl, hb, hlt⟩ := h.form hl
    exact ⟨_, cap, rfl, h.rlg⟩
  · obtain ⟨A, cap, rfl, _⟩ := h.any
    have := h.length
    obtain rfl : n = 0 := by omega
    obtain rfl : l = [] := List.eq_nil_of_length_eq_zero this
    exact ⟨A, cap, rfl, RL.nil _ _ _⟩
theorem OwnL.rebase {base' : Nat} (h : OwnL enc E w base v n l) (hb : base' ≤ base) : OwnL enc E w base' v n l := by
  refine ⟨h.1, ?_⟩
  rcases h.2 with h1 | ⟨g, cap, cur, e, hg, r⟩
  · exact .inl h1
  · exact .inr ⟨g, cap, cur, e, Nat.le_trans hb hg, r⟩
/-- A slice that is written out ('[]T{..}'). -/
theorem OwnL.lit (w : World) (cs : Array Value) (l : List α) (n : Nat) (hcs : cs = (l.map enc).toArray) (hn : l.length = n) (hb : base ≤ w.heap.size) (hm : n ≤ maxLen) :
    OwnL enc E (w.alloc (.cells cs E)) base (.slice (some ⟨w.heap.size, 0, none⟩) n n) n l := by
  subst hcs
  have := World.ownsRow_lit (e := E) (size := 1) w (l.map enc).toArray n hb hm (by simp [hn])
  simpa [OwnL] using this
/-- 'append(v, x)'. -/
theorem OwnL.app {P : Program} {t ty : TypeId} {i : TypeInfo} {z : Value} {bytes : Nat} (h : OwnL enc E w base v n l) (hb : base ≤ w.heap.size) (x : α)
    (ht : P.underlying t = some (.slice E)) (hi : P.info? E = some i) (hz : i.zero = some z) (hsize : i.size = 1) (hby : i.bytes = bytes) (hzs : z.cells.size = 1) (h1 : (enc x).oneCell' = true)
    (hlen : (n + 1) * bytes ≤ 140737488355328) (hlen2 : n + 1 ≤ 9223372036854775807) :
    ∃ v' w', (Builtin.append_ #[t, t] ty #[v, .slice (some ⟨w.heap.size, 0, none⟩) 1 1]).run P (w.alloc (.cells #[enc x] E)) = .ok v' w' ∧ OwnL enc E w' base v' (n + 1) (l ++ [x]) ∧ (w.alloc (.cells #[enc x] E)).grownBy w' v.ownBlock ∧
      (v'.ownBlock = v.ownBlock ∨ v'.ownBlock = some (w.heap.size + 1)) := by
  obtain ⟨v', w', h2, h3, h4, h5, h6⟩ := run_append_own_at (P := P) (w.alloc (.cells #[enc x] E)) base t ty E i z 1 bytes ht hi hz hsize hby hzs (by decide) v n (l.map enc) (World.ownsRow.alloc h _)
    ⟨w.heap.size, 0, none⟩ 1 1 [enc x] rfl (cell_one_new _ _ _) (by simpa using h1) (by simp only [maxLen]; omega) hlen (by simp; omega)
  refine ⟨v', w', h2, ?_, h4, ?_⟩
  · unfold OwnL; simpa using h3
  · simpa using h6
/-- 'make([]T, n)'. -/
theorem OwnL.make {P : Program} {t : TypeId} {i : TypeInfo} {z : α} {bytes : Nat} (w : World) (hb : base ≤ w.heap.size) (n : Nat)
    (ht : P.underlying t = some (.slice E)) (hi : P.info? E = some i) (hz : i.zero = some (enc z)) (hsize : i.size = 1) (hby : i.bytes = bytes) (hzc : (enc z).cells = #[enc z]) (hlen : bytes * n ≤ 281474976710656) (hlen2 : n ≤ 9223372036854775807) :
    ∃ w', (Instr.makeSlice t (.int .i64 (n : Int)) (.int .i64 (n : Int))).run P w = .ok (.slice (some ⟨w.heap.size, 0, none⟩) n n) w' ∧ OwnL enc E w' base (.slice (some ⟨w.heap.size, 0, none⟩) n n) n (List.replicate n z) ∧ Below w.heap.size w w' := by
  obtain ⟨w', h1, h2, h3⟩ := run_make_full (P := P) w base t E i (enc z) 1 ht hi hz hsize .i64 .i64 n (by rw [hby]; exact hlen) (by simp only [maxLen]; omega) hb
  refine ⟨w', h1, ?_, ⟨h3.os, h3.tape, h3.output, h3.size, fun k hk => h3.block k hk (by simp)⟩⟩
  unfold OwnL
  rw [hzc, Nat.mul_one, toList_madeCells_one] at h2
  rw [List.map_replicate]
  exact h2
theorem grown_below {w w' : World} (h : w.grownBy w' none) : Below w.heap.size w w' := ⟨h.os, h.tape, h.output, h.size, fun k hk => h.block k hk (by simp)⟩
theorem wpList_app {P : Program} {ops : Array Oper} {rest : List Oper} {o : Oper} {a : Act} {Q : Exit → Act → World → Prop} (hgd : o.guard = none) (s x : Operand) (t : TypeId)
    (ho : o.op = .call { callee := .builtin .append, args := #[s, x], argTypes := #[t, t] }) (X : α) {cs : Array Value} (hcs : cs = #[enc X]) {i : TypeInfo} {z : Value} {bytes : Nat}
    (ht : P.underlying t = some (.slice E)) (hi : P.info? E = some i) (hz : i.zero = some z) (hsize : i.size = 1) (hby : i.bytes = bytes) (hzs : z.cells.size = 1) (h1 : (enc X).oneCell' = true)
    (hs : a.eval s = v) (h : OwnL enc E w base v n l) (hx : a.eval x = .slice (some ⟨w.heap.size, 0, none⟩) 1 1) (hb : base ≤ w.heap.size)
    (hlen : (n + 1) * bytes ≤ 140737488355328) (hlen2 : n + 1 ≤ 9223372036854775807)
    (hK : ∀ v' w', OwnL enc E w' base v' (n + 1) (l ++ [X]) → w.grownBy w' v.ownBlock → (v'.ownBlock = v.ownBlock ∨ v'.ownBlock = some (w.heap.size + 1)) → wpList P ops Q rest (a.put o.dst v') w') :
    wpList P ops Q (o :: rest) a (w.alloc (.cells cs E)) := by
  subst hcs
  refine wpList_append_own_at _ hgd s x t ho base E i z 1 bytes ht hi hz hsize hby hzs (by decide) v n (l.map enc) hs (World.ownsRow.alloc h _) ⟨w.heap.size, 0, none⟩ 1 1 [enc X] hx rfl (cell_one_new _ _ _) (by simpa using h1) (by simp only [maxLen]; omega) hlen (by simp; omega) ?_
  intro v' w' h2 h3 h4 h5
  refine hK v' w' (by unfold OwnL; simpa using h2) ((grown_of_below (below_alloc1 w _) _).trans h3) (by simpa using h5)
theorem wpList_mk {P : Program} {ops : Array Oper} {rest : List Oper} {o : Oper} {a : Act} {Q : Exit → Act → World → Prop} (hg : o.guard = none) (lo co : Operand) (t : TypeId) (hop : o.op = Op.makeSlice t lo co)
    {i : TypeInfo} (z : α) {bytes : Nat} (n : Nat) (ht : P.underlying t = some (.slice E)) (hi : P.info? E = some i) (hz : i.zero = some (enc z)) (hsize : i.size = 1) (hby : i.bytes = bytes) (hzc : (enc z).cells = #[enc z])
    (kl kc : IntKind) (L C : Int) (hl : a.eval lo = .int kl L) (hc : a.eval co = .int kc C) (hL : L = (n : Int)) (hC : C = (n : Int)) (hlen : bytes * n ≤ 281474976710656) (hlen2 : n ≤ 9223372036854775807) (hb : base ≤ w.heap.size)
    (hK : ∀ w', OwnL enc E w' base (.slice (some ⟨w.heap.size, 0, none⟩) n n) n (List.replicate n z) → Below w.heap.size w w' → wpList P ops Q rest (a.put o.dst (.slice (some ⟨w.heap.size, 0, none⟩) n n)) w') :
    wpList P ops Q (o :: rest) a w := by
  refine wpList_make_full w hg lo co t hop base E i (enc z) 1 ht hi hz hsize kl kc L C n hl hc hL hC (by rw [hby]; exact hlen) (by simp only [maxLen]; omega) hb ?_
  intro w' h2 h3
  refine hK w' ?_ (grown_below h3)
  unfold OwnL
  rw [hzc, Nat.mul_one, toList_madeCells_one] at h2
  rw [List.map_replicate]
  exact h2
end
end Go.Proofs.Ytillfbohengpaaa
