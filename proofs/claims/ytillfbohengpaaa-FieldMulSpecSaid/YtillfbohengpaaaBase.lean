/-
  WORDS: bytes as elements of the field, in the walk's own spelling.
-/
import Derived.WalkKit
import Derived.Lib.Hide
import Derived.WalkLawsBesides
import Derived.WalkSpells
import Derived.KernelRfl
import Derived.Maps.AppendAt
import Derived.Laws.OwnMore
import Derived.Laws.MakeOwn
import Derived.Test.YtillfbohengpaaaProg
import Derived.Test.YtillfbohengpaaaInt
set_option linter.unusedVariables false
set_option linter.unusedSimpArgs false
namespace Go.Proofs.Ytillfbohengpaaa
open Go.RowKit Gf

theorem G_lt (x : G) : x.toNat < 256 := x.isLt
theorem G_le (x : G) : (x.toNat : Int) ≤ 255 := by have := x.isLt; omega
theorem G_ge (x : G) : (0 : Int) ≤ (x.toNat : Int) := by omega
theorem bits_xor_g (a b : G) : bits .xor .u8 (a.toNat : Int) (b.toNat : Int) = ((a ^^^ b).toNat : Int) := by
  unfold bits
  simp only [IntKind.bits]
  rw [IntKind.wrap_u8]
  have h1 : BitVec.ofInt 8 (a.toNat : Int) = a := by simp
  have h2 : BitVec.ofInt 8 (b.toNat : Int) = b := by simp
  rw [h1, h2]
  change (((a ^^^ b : BitVec 8).toNat : Int)) % 256 = ((a ^^^ b : BitVec 8).toNat : Int)
  have := (a ^^^ b : BitVec 8).isLt
  omega
/-- The sum, behind a name that simp does not open. -/
def gx (a b : G) : G := a ^^^ b
theorem bits_gx (a b : G) : bits .xor .u8 (a.toNat : Int) (b.toNat : Int) = ((gx a b).toNat : Int) := bits_xor_g a b
theorem bits_and_bit (b : G) (k : Nat) (h : k < 8) : (bits .and .u8 ((b.toNat : Int) / 2 ^ min (k : Int).toNat 8) 1 == 1) = b.getLsbD k := by
  have hk : k = 0 ∨ k = 1 ∨ k = 2 ∨ k = 3 ∨ k = 4 ∨ k = 5 ∨ k = 6 ∨ k = 7 := by omega
  revert b
  rcases hk with rfl | rfl | rfl | rfl | rfl | rfl | rfl | rfl <;> decide +kernel
theorem tw_hi (x : G) (h : 128 ≤ x.toNat) : bits .xor .u8 ((x.toNat : Int) * 2 % 256) 27 = ((tw x).toNat : Int) := by
  revert x; decide +kernel
theorem tw_lo (x : G) (h : ¬ 128 ≤ x.toNat) : (x.toNat : Int) * 2 % 256 = ((tw x).toNat : Int) := by
  revert x; decide +kernel
theorem below_alloc1 (w : World) (o : Obj) : Below w.heap.size w (w.alloc o) := (Below.refl _ _).alloc (Nat.le_refl _) o
theorem bcell {W w1 : World} (hb : Below W.heap.size W w1) : (∀ b o, b < W.heap.size → w1.cell? ⟨b, o, none⟩ = W.cell? ⟨b, o, none⟩) ∧ (∀ b o, b < W.heap.size → w1.frozen? ⟨b, o, none⟩ = W.frozen? ⟨b, o, none⟩) :=
  ⟨fun b o h => hb.cell (p := ⟨b, o, none⟩) h, fun b o h => hb.frozen (p := ⟨b, o, none⟩) h⟩
/-- One step more of a call that only makes memory. -/
theorem bthen {a b c : World} (h : Below a.heap.size a b) (k : Below b.heap.size b c) : Below a.heap.size a c := h.trans (k.mono h.size)
theorem bthenB {B : Nat} {a b c : World} (h : Below B a b) (hB : B ≤ b.heap.size) (k : Below b.heap.size b c) : Below B a c := h.trans (k.mono hB)
theorem balloc {a b : World} (h : Below a.heap.size a b) (o : Obj) : Below a.heap.size a (b.alloc o) := h.alloc h.size o
theorem bdrewN {B : Nat} {a b : World} (h : Below B a b) (n : Nat) : Below B a (b.drewN n) := by
  obtain ⟨h1, h2, h3, h4, h5⟩ := h
  exact ⟨h1, h2, h3, h4, h5⟩
theorem grown_of_below {w w1 : World} (h : Below w.heap.size w w1) (row : Option Nat) : w.grownBy w1 row := ⟨h.os, h.tape, h.output, h.size, fun i hi _ => h.block i hi⟩
theorem nat_beq (a b : Nat) : ((a : Int) == (b : Int)) = decide (a = b) := by
  rw [Bool.eq_iff_iff, beq_iff_eq, decide_eq_true_eq]; omega
theorem cell_new (w : World) (c : Array Value) (t : TypeId) (fr : Nat × Nat) (b i : Nat) (hb : b = w.heap.size) : (w.alloc (.cells c t fr)).cell? ⟨b, i, none⟩ = c[i]? := by
  subst hb
  simp only [World.cell?, heap_alloc_new]
  rfl
theorem cell_old (w : World) (o : Obj) (a : Addr) (h : a.block < w.heap.size) : (w.alloc o).cell? a = w.cell? a := World.cell?_of_block (Below.heap_alloc w o a.block h)
theorem frozen_old (w : World) (o : Obj) (a : Addr) (h : a.block < w.heap.size) : (w.alloc o).frozen? a = w.frozen? a := World.frozen?_of_block (Below.heap_alloc w o a.block h)
theorem frozen_new (w : World) (c : Array Value) (t : TypeId) (b i : Nat) (hb : b = w.heap.size) : (w.alloc (.cells c t)).frozen? ⟨b, i, none⟩ = false := by
  subst hb
  simp only [World.frozen?, heap_alloc_new]
  simp
theorem cell_set_ne (w : World) (a b : Addr) (v : Value) (h : b.block ≠ a.block) : (w.setCell a v).cell? b = w.cell? b := World.cell?_of_block (Below.heap_setCell w a v b.block h)
/-- A byte as a value. -/
abbrev gv (x : G) : Value := .int .u8 (x.toNat : Int)
/-- A slice (nil, empty or not) of n elements of one cell, which read as l. -/
def RL {α : Type} (enc : α → Value) (w : World) (A : Option Addr) (n : Nat) (l : List α) : Prop :=
  l.length = n ∧ n ≤ 9223372036854775807 ∧ ∀ j (h : j < l.length), ∃ b o, A = some ⟨b, o, none⟩ ∧ b < w.heap.size ∧ w.cell? ⟨b, o + j, none⟩ = some (enc l[j])
theorem RL.below {α : Type} {enc : α → Value} {w w' : World} {A : Option Addr} {n : Nat} {l : List α} (h : RL enc w A n l) (hb : Below w.heap.size w w') : RL enc w' A n l :=
  ⟨h.1, h.2.1, fun j hj => by
    obtain ⟨b, o, e, hlt, hc⟩ := h.2.2 j hj
    exact ⟨b, o, e, Nat.lt_of_lt_of_le hlt hb.size, (hb.cell (p := ⟨b, o + j, none⟩) hlt).trans hc⟩⟩
theorem RL.nil {α : Type} (enc : α → Value) (w : World) (A : Option Addr) : RL enc w A 0 [] := ⟨rfl, by omega, fun j h => by simp at h⟩
theorem RL.at {α : Type} {enc : α → Value} {w : World} {A : Option Addr} {n : Nat} {l : List α} (h : RL enc w A n l) (j : Nat) (hj : j < n) :
    ∃ b o, A = some ⟨b, o, none⟩ ∧ b < w.heap.size ∧ w.cell? ⟨b, o + j, none⟩ = some (enc (l[j]'(by rw [h.1]; exact hj))) := h.2.2 j (by rw [h.1]; exact hj)
end Go.Proofs.Ytillfbohengpaaa
