/-
  WALKS: field.points (a set of bytes, kept in a map).
-/
import Derived.Test.YtillfbohengpaaaMap
set_option linter.unusedVariables false
set_option linter.unusedSimpArgs false
namespace Go.Proofs.Ytillfbohengpaaa
open Go.RowKit Gf
def setm (s : List G) : List (Int × Value) := s.map fun x => ((x.toNat : Int), Value.bool true)
theorem G_int_inj (x y : G) : ((x.toNat : Int) == (y.toNat : Int)) = (x == y) := by
  rw [Bool.eq_iff_iff, beq_iff_eq, beq_iff_eq]
  constructor
  · intro h; exact BitVec.eq_of_toNat_eq (by omega)
  · rintro rfl; rfl
theorem mfind_set (x : G) : ∀ (s : List G) (i : Nat), (x ∈ s → ∃ j, mfind (setm s) (x.toNat : Int) i = some (j, .bool true) ∧ i ≤ j ∧ (setm s)[j - i]? = some ((x.toNat : Int), .bool true)) ∧ (x ∉ s → mfind (setm s) (x.toNat : Int) i = none) := by
  intro s
  induction s with
  | nil => intro i; exact ⟨fun h => by simp at h, fun _ => rfl⟩
  | cons y s ih =>
    intro i
    simp only [setm, List.map_cons, mfind, G_int_inj]
    by_cases e : x = y
    · subst e
      simp only [beq_self_eq_true, if_true]
      exact ⟨fun _ => ⟨i, rfl, Nat.le_refl _, by simp⟩, fun h => by simp at h⟩
    · have : (x == y) = false := by simpa using e
      simp only [this, Bool.false_eq_true, if_false, List.mem_cons, e, false_or]
      refine ⟨fun h => ?_, fun h => (ih (i + 1)).2 h⟩
      obtain ⟨j, h1, h2, h3⟩ := (ih (i + 1)).1 h
      refine ⟨j, h1, by omega, ?_⟩
      have : j - i = (j - (i + 1)) + 1 := by omega
      rw [this]; simpa [setm] using h3
theorem mget_set (x : G) (s : List G) : (mget (setm s) (x.toNat : Int)).getD (.bool false) = .bool (decide (x ∈ s)) := by
  unfold mget
  by_cases h : x ∈ s
  · obtain ⟨j, h1, _⟩ := (mfind_set x s 0).1 h
    simp [h1, h]
  · simp [(mfind_set x s 0).2 h, h]
theorem mput_set (x : G) (s : List G) : mput (setm s) (x.toNat : Int) (.bool true) = setm (if x ∈ s then s else s ++ [x]) := by
  unfold mput
  by_cases h : x ∈ s
  · obtain ⟨j, h1, h2, h3⟩ := (mfind_set x s 0).1 h
    simp only [h1, h, if_true]
    simp only [Nat.sub_zero] at h3
    apply List.ext_getElem?
    intro i
    rw [List.getElem?_set]
    split
    · rename_i e; subst e; rw [h3]; have := (List.getElem?_eq_some_iff.1 h3).1; simp [this]
    · rfl
  · simp only [(mfind_set x s 0).2 h, h, if_false]
    simp [setm]
def memB (x : G) (s : List G) : Bool := decide (x ∈ s)
def addS (x : G) (s : List G) : List G := if x ∈ s then s else s ++ [x]
theorem again_u (x : G) (s : List G) (C b : Nat) (w : World) (hc : w.cell? ⟨C, 0, none⟩ = some (.map (some b))) (hm : MapAt w b .u8 (setm s)) :
    Calls Try.prog 55 #[gv x, .pointer (some ⟨C, 0, none⟩)] w fun e w' => e = .returned (.bool (memB x s)) ∧ MapAt w' b .u8 (setm (addS x s)) ∧ w.grownBy w' (some b) := by
  have hlk := run_lookup_i (P := Try.prog) (t := 70) (e := 4) hm Try.underlying70 Try.underlying5 (z := .bool false) (fun w => by kernel_rfl) (x.toNat : Int)
  rw [mget_set] at hlk
  change _ = Result.ok (Value.bool (memB x s)) w at hlk
  obtain ⟨w1, hup, hm1, hg1⟩ := run_update_i (P := Try.prog) (t := 70) (e := 4) hm Try.underlying70 Try.underlying5 (x.toNat : Int) (.bool true)
  rw [mput_set] at hm1
  change MapAt w1 b .u8 (setm (addS x s)) at hm1
  go_enter Try.func55, Try.ntmps55
  go_wp2_with fail
  go_ret
  exact ⟨rfl, hm1, hg1⟩
set_option maxHeartbeats 1000000 in
theorem points_u (A B : Option Addr) (n m c d : Nat) (xs : List G) (w : World) (hx : RL gv w A n xs) :
    Calls Try.prog 38 #[.slice A n c, .slice B m d] w fun e w' => e = .returned (.bool (decide (xs.Nodup ∧ n = m))) ∧ Below w.heap.size w w' := by
  have hmm := @run_makeMap Try.prog
  have hlen := hx.2.1
  obtain rfl := hx.1
  have HX := Lib.hid hx; clear hx
  go_enter Try.func38, Try.ntmps38
  go_wp2_with fail
  clear hmm
  generalize hW0 : (w.alloc (Obj.map #[] 0)).alloc _ = W0
  have hB0 : Below w.heap.size w W0 := by rw [← hW0]; exact balloc (below_alloc1 _ _) _
  have hM0 : MapAt W0 w.heap.size .u8 (setm []) := by rw [← hW0]; exact (MapAt.made w .u8).alloc _
  have hc0 : W0.cell? ⟨w.heap.size + 1, 0, none⟩ = some (.map (some w.heap.size)) := by rw [← hW0, cell_new _ _ _ _ _ _ (by simp)]; rfl
  clear hW0
  go_loopw [8, 13] (fun _ si wr => ∃ k : Nat, k ≤ xs.length ∧ si = .int .i64 k ∧ (xs.take k).Nodup ∧ MapAt wr w.heap.size .u8 (setm (xs.take k)) ∧ wr.cell? ⟨w.heap.size + 1, 0, none⟩ = some (.map (some w.heap.size)) ∧ Below w.heap.size w wr) (fun _ si _ => xs.length - (intOf si).toNat)
  case atStart => exact ⟨0, by omega, rfl, by simp, hM0, hc0, hB0⟩
  case round =>
    obtain ⟨k, hk, rfl, hnd, hM, hc, hB⟩ := hrel
    by_cases hlt : k < xs.length
    · obtain ⟨b, o, rfl, hb, hcb⟩ := HX.out.2.2 k hlt
      have hcw := (hB.cell (p := ⟨b, o + k, none⟩) hb).trans hcb
      have hND := Lib.hid hnd; clear hnd hM0 hc0 hB0 hcb
      cases hmem : memB xs[k] (xs.take k) with
      | true =>
        have HM := Lib.hid hmem; clear hmem
        go_wp2_with fail
        refine (again_u _ _ _ _ _ hc hM).mono ?_
        rintro e w2 ⟨rfl, _, hg⟩
        rw [HM.out]
        go_wp2_with fail
        go_ret
        have hno : decide (xs.Nodup ∧ xs.length = m) = false := by
          have hm : xs[k] ∈ xs.take k := of_decide_eq_true HM.out
          refine decide_eq_false fun h => ?_
          have hd := h.1
          rw [← List.take_append_drop k xs, List.nodup_append] at hd
          have hmd : xs[k] ∈ xs.drop k := by rw [List.drop_eq_getElem_cons hlt]; exact List.mem_cons_self
          exact hd.2.2 _ hm _ hmd rfl
        rw [hno]
        exact ⟨rfl, hB.grown hg hB.size (fun j e => by cases e; exact Nat.le_refl _)⟩
      | false =>
        have HM := Lib.hid hmem; clear hmem
        go_wp2_with fail
        refine (again_u _ _ _ _ _ hc hM).mono ?_
        rintro e w2 ⟨rfl, hM2, hg⟩
        rw [HM.out]
        have hnot : xs[k] ∉ xs.take k := of_decide_eq_false HM.out
        have hadd : addS xs[k] (xs.take k) = xs.take (k + 1) := by
          unfold addS
          rw [if_neg hnot, List.take_succ_eq_append_getElem hlt]
        rw [hadd] at hM2
        have hnd2 : (xs.take (k + 1)).Nodup := by
          rw [List.take_succ_eq_append_getElem hlt, List.nodup_append]
          exact ⟨hND.out, by simp, fun a ha b hb e => by simp at hb; subst hb; subst e; exact hnot ha⟩
        have hc2 := hg.cell hc (by simp)
        clear hadd hnot
        have HN := Lib.hid hnd2; clear hnd2
        go_wp2_with fail
        go_roundw
        case rel => exact ⟨k + 1, by omega, by go_num, HN.out, hM2, hc2, hB.grown hg hB.size (fun j e => by cases e; exact Nat.le_refl _)⟩
        case measure => simp [intOf]; omega
    · obtain rfl : k = xs.length := by omega
      have HN := Lib.hid hnd; clear hnd
      go_wp2_with fail
      go_ret
      have hn : xs.Nodup := by have := HN.out; rwa [List.take_length] at this
      refine ⟨?_, hB⟩
      simp only [hn, true_and]
      rw [nat_beq]
      rfl
end Go.Proofs.Ytillfbohengpaaa
