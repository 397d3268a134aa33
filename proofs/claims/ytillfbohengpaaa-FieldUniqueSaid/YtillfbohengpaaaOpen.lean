/-
  A slice of bytes that came in reads as a list.
-/
import Derived.Test.YtillfbohengpaaaAx
import Derived.ChangeSlices
set_option linter.unusedVariables false
set_option linter.unusedSimpArgs false
namespace Go.Proofs.Ytillfbohengpaaa
open Go.RowKit Gf
theorem cell_lt {w : World} {a : Addr} {v : Value} (h : w.cell? a = some v) : a.block < w.heap.size := by
  rcases Nat.lt_or_ge a.block w.heap.size with h1 | h1
  · exact h1
  · simp [World.cell?, Array.getElem?_eq_none h1] at h
theorem RL.opened {W : World} {x : Addr} {len cap : Nat} {zs : List Int} (hl : len ≤ cap) (hm : cap ≤ maxLen) (hz : zs.length = cap) (hcell : ∀ i, i < zs.length → W.cell? (x.add i) = some (.int .u8 (zs.getD i 0))) (hwz : ∀ n ∈ zs, (Lit.int .u8 n).wf = true) :
    ∃ l, RL gv W (some x) len l := by
  refine ⟨(zs.take len).map fun n => BitVec.ofNat 8 n.toNat, by simp; omega, by unfold maxLen at hm; omega, fun j hj => ?_⟩
  have hj' : j < len := by simp at hj; omega
  obtain ⟨ab, ao, spot⟩ := x
  have hspot : spot = none := by simpa [Addr.add] using World.cell?_spot (hcell 0 (by omega))
  subst hspot
  have hcj := hcell j (by omega)
  rw [Addr.add_lit] at hcj
  refine ⟨ab, ao, rfl, cell_lt hcj, ?_⟩
  rw [hcj]
  have e : zs.getD j 0 = zs[j]'(by omega) := by simp [List.getD, List.getElem?_eq_getElem (show j < zs.length by omega)]
  rw [e]
  obtain ⟨y, hy⟩ := g_of _ (hwz _ (List.getElem_mem (show j < zs.length by omega)))
  simp only [List.getElem_map, List.getElem_take, hy]
  simp
end Go.Proofs.Ytillfbohengpaaa
