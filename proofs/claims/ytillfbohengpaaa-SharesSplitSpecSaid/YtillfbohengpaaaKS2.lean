/-
  Texts of this session and laid words, merged in their order and pruned: Rf, Mul, Eval, Coef, Sane, Ax, RefMul, Sh, Alike, Check, Kd, PAtestamurref07Mul, PAtestamurref07Eval, PAtestamurref08Split, PAtestamurref08Few, Ralike, PAsharespoints, Cols.
-/
import Derived.RangeFuncNested
import Derived.RangeFuncBound
import Derived.RangeFuncCalls
import Derived.RangeFuncLeaves
import Derived.Shelf.Abstract
import Derived.WalkKit
import Derived.OwnWalkIn
import Derived.TacticsInMore
import Derived.LoopNIn
import Derived.LoopIn
import Derived.Test.YtillfbohengpaaaKS1
import Derived.Deep.LoopGhost
import Derived.Shelf.RegionOpen
import Derived.BigQuiet
import Derived.Laws.BytesArg
section
set_option linter.unusedVariables false
set_option linter.unusedSimpArgs false
namespace Go.Proofs.Ytillfbohengpaaa
open Go.RowKit
def SeqJ {α : Type} (F : Fence) (n : Nat) (P : Program) (gf : Nat) (lb : Array Value) (encs : α → Array Value) (Bd : List α → World → Prop) (Nx : List α → α → Prop) (S Sp : List α → Prop) (w : World) : Prop :=
  ∀ (l : Nat) (J Jx : List α → World → Prop) (W : World), Below w.heap.size w W → AbidesFrom W.heap.size J → (∀ pre W1, J pre W1 → Bd pre W1) →
    (∀ pre x W1, J pre W1 → Nx pre x → YieldAt F (n - 1) P l (encs x) W1 fun e W' => (e = .returned (.bool true) ∧ J (pre ++ [x]) W') ∨ (e = .returned (.bool false) ∧ Jx (pre ++ [x]) W')) →
    J [] W →
    CallsIn F n P gf (#[.func (.yield l) #[] #[]] ++ lb) W fun e W' => (∃ v, e = .returned v) ∧ ((∃ xs, S xs ∧ J xs W') ∨ (∃ pre, Sp pre ∧ Jx pre W'))
def postJ {α : Type} (I : List α → World → Prop) (Ix : Code → List α → World → Prop) (xs : List α) (W : World) : Exit → Act → World → Prop
  | .normal, _, W' => KeepsOthers W W' ∧ I xs W'
  | .ret, _, W' => KeepsOthers W W' ∧ Ix .ret xs W'
  | .exit id, _, W' => KeepsOthers W W' ∧ Ix (.exit id) xs W'
  | .goto t, _, W' => KeepsOthers W W' ∧ Ix (.goto t) xs W'
  | .panic _, _, _ => False
  | .outgrown, _, _ => False
variable {F : Fence} {n : Nat} {P : Program}
theorem rangeFuncJ {α : Type} {g : Operand} {ps : Array Tmp} {assign body : Code} {Q : Exit → Act → World → Prop} {a : Act} {w : World}
    (hro : F.round = none) (h1 : 1 ≤ n) {gf : Nat} {lb : Array Value} (hg : a.eval g = .func (.func gf) #[] lb) (hFg : F.fn gf) (eg : ∀ args w, (callFunc gf args).run P w = .ok (.enter gf args) w)
    {encs : α → Array Value} {Bd : List α → World → Prop} {Nx : List α → α → Prop} {S Sp : List α → Prop} (hseq : SeqJ F (n - 1) P gf lb encs Bd Nx S Sp w) (hps : ∀ x, (encs x).size = ps.size)
    (I : List α → World → Prop) (Ix : Code → List α → World → Prop) (hI : OwnFrom w.heap.size I) (hIx : ∀ c, OwnFrom w.heap.size (Ix c)) (hBd : ∀ pre W, I pre W → Bd pre W) (h0 : I [] w) (a₁ : α → Act)
    (hassign : ∀ (l : Nat) (x : α) (W : World) (K : Act → World → Prop), K (a₁ x) W →
      assign.wpIn (F.inRound l) (n - 1 - 1) P (Exit.then K (fun _ _ _ => False)) { tmps := (ps.zip (encs x)).foldl (fun t (p, v) => t.setIfInBounds p v) a.tmps, defers := [] } W)
    (hbody : ∀ (l : Nat) (pre : List α) (x : α) (W : World), I pre W → Nx pre x → body.wpIn (F.inRound l) (n - 1 - 1) P (postJ I Ix (pre ++ [x]) W) (a₁ x) W)
    (hdone : ∀ (D : Nat) (xs : List α) (W : World), w.heap.size ≤ D → S xs → I xs W → W.heap[D]? = some (.deferred (some [])) → Q .normal { a with defers := { target := .collected D, args := #[] } :: a.defers } W)
    (hstop : ∀ (D : Nat) (c : Code) (pre : List α) (W : World), w.heap.size ≤ D → Sp pre → Ix c pre W → W.heap[D]? = some (.deferred (some [])) → c.wpIn F n P Q { a with defers := { target := .collected D, args := #[] } :: a.defers } W) :
    (Code.rangeFunc g ps assign body).wpIn F n P Q a w := by
  refine wpIn_rangeFunc ?_
  intro fn hfn
  rw [hro]
  obtain ⟨rec, hrec⟩ : ∃ rec : LoopState → Option Code → Loop, rec = fun st pe => { state := st, pending := pe, fn, tmps := a.tmps, params := ps, assign, body, defers := w.heap.size } := ⟨_, rfl⟩
  obtain ⟨W1, hW1⟩ : ∃ W1, (w.alloc (.deferred (some []))).alloc (.loop (rec .ready none)) = W1 := ⟨_, rfl⟩
  have hL1 : W1.heap[w.heap.size + 1]? = some (.loop (rec .ready none)) := by
    rw [← hW1]; have := World.alloc_heap_new (w.alloc (.deferred (some []))) (.loop (rec .ready none)); rwa [World.size_alloc] at this
  have hK1 : W1.heap[w.heap.size]? = some (.deferred (some [])) := by
    rw [← hW1]; exact (Below.heap_alloc _ _ _ (by simp)).trans (World.alloc_heap_new w _)
  have hI1 : I [] W1 := by rw [← hW1]; exact hI.alloc _ (hI.alloc _ h0)
  have hb1 : Below w.heap.size w W1 := by
    rw [← hW1]; exact ((Below.refl _ w).alloc (Nat.le_refl _) _).alloc (by simp) _
  refine ⟨w.heap.size + 1, [{ target := .collected w.heap.size, args := #[] }], W1, { target := .fn (.func gf) lb, args := #[.func (.yield (w.heap.size + 1)) #[] #[]] }, W1, gf,
    #[.func (.yield (w.heap.size + 1)) #[] #[]] ++ lb, W1, ?_, ?_, ?_, ?_, fun _ => h1, ?_⟩
  · rw [← hW1, hrec]; exact run_enterLoop_outer _ _ _ _ _
  · simp only [resolve, hg]
    simp [go_sem]
  · intro f' hf'; simp [Target.leads] at hf'; subst hf'; exact hFg
  · simp [invoke, go_sem, eg]
  · have hnw : ∀ {A B : World} {row : Option Nat}, (∀ r, row = some r → W1.heap.size ≤ r ∧ ∃ o : Obj, A.heap[r]? = some o ∧ o.isWalk = true) → (∀ r, row = some r → w.heap.size ≤ r ∧ ∃ o : Obj, A.heap[r]? = some o ∧ o.isCells = false) :=
      fun hr r e => by obtain ⟨hB, o, ho, hw⟩ := hr r e; exact ⟨by rw [← hW1] at hB; simp at hB; omega, o, ho, Obj.not_cells_of_walk hw⟩
    refine (hseq (w.heap.size + 1)
      (fun pre W => I pre W ∧ W.heap[w.heap.size + 1]? = some (.loop (rec .ready none)) ∧ W.heap[w.heap.size]? = some (.deferred (some [])))
      (fun pre W => ∃ c, Ix c pre W ∧ W.heap[w.heap.size + 1]? = some (.loop (rec .done (some c))) ∧ W.heap[w.heap.size]? = some (.deferred (some [])))
      W1 hb1
      (fun s A B row hs hg' hr => ⟨hI s A B row hs.1 hg' (hnw (B := B) hr), (grownBy_keeps hg' (fun r e => (hr r e).2) hs.2.1 rfl).trans hs.2.1, (grownBy_keeps hg' (fun r e => (hr r e).2) hs.2.2 rfl).trans hs.2.2⟩)
      (fun pre A hs => hBd pre A hs.1)
      ?_ ⟨hI1, hL1, hK1⟩).mono ?_
    · rintro pre x W ⟨hi, hl, hk⟩ hnx
      have hlt : w.heap.size + 1 < W.heap.size := (Array.getElem?_eq_some_iff.1 hl).1
      have hy := run_yield (P := P) (args := encs x) hl (by rw [hrec]; exact hps x)
      rw [hrec] at hy
      refine ⟨fn, _, assign, body, hy, roundIn_of_wpIn hfn (hassign _ x W _ ⟨_, run_beginRound hl (by rw [hrec]), ?_⟩)⟩
      have hl2 : (W.putObj (w.heap.size + 1) (.loop { rec .ready none with state := .busy })).heap[w.heap.size + 1]? = some (.loop { rec .ready none with state := .busy }) := World.putObj_heap_same hlt
      have hk2 : (W.putObj (w.heap.size + 1) (.loop { rec .ready none with state := .busy })).heap[w.heap.size]? = some (.deferred (some [])) := (World.putObj_heap_other (by omega)).trans hk
      refine wpIn_mono (hbody _ pre x _ (hI.putObj _ hi (by omega) hl rfl) hnx) ?_
      have fin : ∀ (jump : Option Code) (W3 : World), KeepsOthers (W.putObj (w.heap.size + 1) (.loop { rec .ready none with state := .busy })) W3 →
          (Instr.endRound (w.heap.size + 1) jump).run P W3 = .ok (.bool jump.isNone) (W3.putObj (w.heap.size + 1) (.loop (rec (if jump.isNone then .ready else .done) jump))) ∧
          W3.heap[w.heap.size + 1]? = some (.loop { rec .ready none with state := .busy }) ∧
          (W3.putObj (w.heap.size + 1) (.loop (rec (if jump.isNone then .ready else .done) jump))).heap[w.heap.size + 1]? = some (.loop (rec (if jump.isNone then .ready else .done) jump)) ∧
          (W3.putObj (w.heap.size + 1) (.loop (rec (if jump.isNone then .ready else .done) jump))).heap[w.heap.size]? = some (.deferred (some [])) := fun jump W3 hk3 => by
        have hl3 := hk3.same _ _ hl2 rfl
        have := run_endRound (P := P) jump hl3
        rw [hrec] at this ⊢
        exact ⟨this, by rw [hrec] at hl3; exact hl3, World.putObj_heap_same (Array.getElem?_eq_some_iff.1 hl3).1, (World.putObj_heap_other (by omega)).trans (hk3.same _ _ hk2 rfl)⟩
      rintro e a3 W3 hp
      cases e with
      | normal =>
        obtain ⟨hk3, hi3⟩ := hp
        obtain ⟨hr, hl3, hl4, hk4⟩ := fin none W3 hk3
        exact ⟨_, _, hr, .inl ⟨rfl, hI.putObj _ hi3 (by omega) hl3 rfl, hl4, hk4⟩⟩
      | ret =>
        obtain ⟨hk3, hi3⟩ := hp
        obtain ⟨hr, hl3, hl4, hk4⟩ := fin (some .ret) W3 hk3
        exact ⟨_, _, hr, .inr ⟨rfl, .ret, (hIx _).putObj _ hi3 (by omega) hl3 rfl, hl4, hk4⟩⟩
      | exit id =>
        obtain ⟨hk3, hi3⟩ := hp
        obtain ⟨hr, hl3, hl4, hk4⟩ := fin (some (.exit id)) W3 hk3
        exact ⟨_, _, hr, .inr ⟨rfl, .exit id, (hIx _).putObj _ hi3 (by omega) hl3 rfl, hl4, hk4⟩⟩
      | goto t =>
        obtain ⟨hk3, hi3⟩ := hp
        obtain ⟨hr, hl3, hl4, hk4⟩ := fin (some (.goto t)) W3 hk3
        exact ⟨_, _, hr, .inr ⟨rfl, .goto t, (hIx _).putObj _ hi3 (by omega) hl3 rfl, hl4, hk4⟩⟩
      | panic ch => exact hp.elim
      | outgrown => exact hp.elim
    · rintro e W2 ⟨⟨v, rfl⟩, (⟨xs, hS, hi, hl, hk⟩ | ⟨pre, hSp, c, hi, hl, hk⟩)⟩
      · exact ⟨none, _, by have := run_endLoop (P := P) hl (by rw [hrec]; simp); rw [hrec] at this; exact this, hdone _ xs _ (Nat.le_refl _) hS (hI.putObj _ hi (by omega) hl rfl) ((World.putObj_heap_other (by omega)).trans hk)⟩
      · exact ⟨some c, _, by have := run_endLoop (P := P) hl (by rw [hrec]; simp); rw [hrec] at this; exact this, hstop _ c pre _ (Nat.le_refl _) hSp ((hIx c).putObj _ hi (by omega) hl rfl) ((World.putObj_heap_other (by omega)).trans hk)⟩
theorem keepsOthers_below {W W' : World} (h : Below W.heap.size W W') : KeepsOthers W W' :=
  ⟨h.size, fun k o hk _ => (h.block k (Array.getElem?_eq_some_iff.1 hk).1).trans hk⟩
end Go.Proofs.Ytillfbohengpaaa
end
section
set_option linter.unusedVariables false
set_option linter.unusedSimpArgs false
namespace Go.Proofs.Ytillfbohengpaaa
open Go.RowKit Gf
theorem twice_u (x : G) (w : World) : Calls Try.prog 37 #[.int .u8 (x.toNat : Int)] w fun e w' => e = .returned (.int .u8 ((tw x).toNat : Int)) ∧ w = w' := by
  by_cases h : 128 ≤ x.toNat
  · have H := Lib.hid (tw_hi x h)
    have h' : (128 : Int) ≤ (x.toNat : Int) := by omega
    clear h
    have hx := G_le x
    generalize hn : (x.toNat : Int) = n at *
    clear hn
    go_enter Try.func37, Try.ntmps37
    go_wp2
    go_ret
    exact ⟨by rw [H.out]; rfl, rfl⟩
  · have h2 : (x.toNat : Int) * 2 = ((tw x).toNat : Int) := by have := tw_lo x h; have := G_le x; omega
    have H := Lib.hid h2
    clear h2
    have h' : (x.toNat : Int) < 128 := by omega
    clear h
    have hx' := G_ge x
    generalize hn : (x.toNat : Int) = n at *
    clear hn
    go_enter Try.func37, Try.ntmps37
    go_wp2
    go_ret
    exact ⟨by rw [H.out]; rfl, rfl⟩
def tab (k : Nat) (a : G) : Array Value := ((List.range 8).map fun j => Value.int .u8 (if j < k then ((pw j a).toNat : Int) else 0)).toArray
theorem tab_get (k : Nat) (a : G) (h : k < 8) : ∃ v, (tab k a)[k]? = some v := by
  simp [tab, h]
theorem tab_set (k : Nat) (a : G) : (tab k a).setIfInBounds k (.int .u8 ((pw k a).toNat : Int)) = tab (k+1) a := by
  apply Array.ext'
  simp only [tab, Array.toList_setIfInBounds]
  apply List.ext_getElem
  · simp
  · intro i h1 h2
    simp [List.getElem_set]
    by_cases e : k = i
    · subst e; simp
    · simp [e]
      have : i < k ↔ i < k + 1 := by omega
      simp [this]
theorem tab_index0 (a : G) (w : World) : (Instr.index 56 (.agg (tab 8 a)) (.int .i64 0)).run Try.prog w = .ok (.int .u8 ((pw 0 a).toNat : Int)) w := by kernel_rfl
theorem tab_index1 (a : G) (w : World) : (Instr.index 56 (.agg (tab 8 a)) (.int .i64 1)).run Try.prog w = .ok (.int .u8 ((pw 1 a).toNat : Int)) w := by kernel_rfl
theorem tab_index2 (a : G) (w : World) : (Instr.index 56 (.agg (tab 8 a)) (.int .i64 2)).run Try.prog w = .ok (.int .u8 ((pw 2 a).toNat : Int)) w := by kernel_rfl
theorem tab_index3 (a : G) (w : World) : (Instr.index 56 (.agg (tab 8 a)) (.int .i64 3)).run Try.prog w = .ok (.int .u8 ((pw 3 a).toNat : Int)) w := by kernel_rfl
theorem tab_index4 (a : G) (w : World) : (Instr.index 56 (.agg (tab 8 a)) (.int .i64 4)).run Try.prog w = .ok (.int .u8 ((pw 4 a).toNat : Int)) w := by kernel_rfl
theorem tab_index5 (a : G) (w : World) : (Instr.index 56 (.agg (tab 8 a)) (.int .i64 5)).run Try.prog w = .ok (.int .u8 ((pw 5 a).toNat : Int)) w := by kernel_rfl
theorem tab_index6 (a : G) (w : World) : (Instr.index 56 (.agg (tab 8 a)) (.int .i64 6)).run Try.prog w = .ok (.int .u8 ((pw 6 a).toNat : Int)) w := by kernel_rfl
theorem tab_index7 (a : G) (w : World) : (Instr.index 56 (.agg (tab 8 a)) (.int .i64 7)).run Try.prog w = .ok (.int .u8 ((pw 7 a).toNat : Int)) w := by kernel_rfl
theorem tab_index (a : G) (k : Nat) (h : k < 8) (w : World) : (Instr.index 56 (.agg (tab 8 a)) (.int .i64 k)).run Try.prog w = .ok (.int .u8 ((pw k a).toNat : Int)) w := by
  have hk : k = 0 ∨ k = 1 ∨ k = 2 ∨ k = 3 ∨ k = 4 ∨ k = 5 ∨ k = 6 ∨ k = 7 := by omega
  rcases hk with rfl | rfl | rfl | rfl | rfl | rfl | rfl | rfl
  · exact tab_index0 a w
  · exact tab_index1 a w
  · exact tab_index2 a w
  · exact tab_index3 a w
  · exact tab_index4 a w
  · exact tab_index5 a w
  · exact tab_index6 a w
  · exact tab_index7 a w
theorem tab_lit (a : G) : tab 8 a = #[.int .u8 ((pw 0 a).toNat : Int), .int .u8 ((pw 1 a).toNat : Int), .int .u8 ((pw 2 a).toNat : Int), .int .u8 ((pw 3 a).toNat : Int), .int .u8 ((pw 4 a).toNat : Int), .int .u8 ((pw 5 a).toNat : Int), .int .u8 ((pw 6 a).toNat : Int), .int .u8 ((pw 7 a).toNat : Int)] := rfl
set_option maxHeartbeats 400000 in
theorem mul_u (a b : G) (w : World) :
    Calls Try.prog 18 #[.int .u8 (a.toNat : Int), .int .u8 (b.toNat : Int)] w fun e w' => e = .returned (.int .u8 ((mul a b).toNat : Int)) ∧ Below w.heap.size w w' := by
  go_enter Try.func18, Try.ntmps18
  go_wp2_with fail
  go_loopw [0, 6, 9, 16] (fun sa _ si _ wr => ∃ (k : Nat), k ≤ 8 ∧ si = .int .i64 k ∧ sa = .int .u8 ((pw k a).toNat : Int) ∧ wr = w.alloc (.cells (tab k a) 56)) (fun _ _ si _ _ => 8 - (intOf si).toNat)
  case atStart => exact ⟨0, by omega, rfl, rfl, rfl⟩
  case round =>
    obtain ⟨k, hk, rfl, rfl, rfl⟩ := hrel
    by_cases hlt : k < 8
    · obtain ⟨v, hv⟩ := tab_get k a hlt
      go_wp2_with (go_at_call 37; refine (twice_u _ _).mono ?_; rintro e w' ⟨rfl, rfl⟩)
      go_roundw
      case rel => exact ⟨k+1, by omega, by go_num, rfl, by rw [← tab_set k a]⟩
      case measure => simp [intOf]; omega
    · obtain rfl : k = 8 := by omega
      rw [tab_lit]
      go_wp2_with fail
      rw [← tab_lit]
      go_loop [4, 7, 8, 19] (fun sc _ _ si => ∃ (k : Nat), k ≤ 8 ∧ si = .int .i64 k ∧ sc = .int .u8 ((gpart a b k).toNat : Int)) (fun _ _ _ si => 8 - (intOf si).toNat)
      case atStart => exact ⟨0, by omega, rfl, rfl⟩
      case round =>
        obtain ⟨k, hk, rfl, rfl⟩ := hrel
        by_cases hlt : k < 8
        · have hix := tab_index a k hlt
          have hbit := bits_and_bit b k hlt
          have e8 : (min (k : Int).toNat 8) = k := by simp; omega
          rw [e8] at hbit
          have hp : gpart a b (k + 1) = if b.getLsbD k then gpart a b k ^^^ pw k a else gpart a b k := rfl
          have HP := Lib.hid hp; clear hp e8
          go_wp2_with fail
          all_goals
            go_round
            case rel => exact ⟨k + 1, by omega, by go_num, by rw [HP.out]; first | (rw [if_pos (show b.getLsbD k = true by assumption), bits_xor_g]) | (rw [if_neg (by rw [show b.getLsbD k = false by assumption]; decide)])⟩
            case measure => simp [intOf]; omega
        · obtain rfl : k = 8 := by omega
          go_wp2_with fail
          go_ret
          exact ⟨rfl, below_alloc1 _ _⟩
def invR (a : G) : G × Int := if a = 0#8 then (0#8, 1) else (inv a, 0)
theorem inv_u (a : G) (w : World) :
    Calls Try.prog 16 #[.int .u8 (a.toNat : Int)] w fun e w' => e = .returned (.tuple #[.int .u8 ((invR a).1.toNat : Int), .int .i64 (invR a).2]) ∧ Below w.heap.size w w' := by
  by_cases h : a = 0#8
  · subst h
    go_enter Try.func16, Try.ntmps16
    go_wp2_with fail
    go_ret2
    exact ⟨rfl, Below.refl _ _⟩
  · have hr : invR a = (inv a, 0) := by simp [invR, h]
    have HR := Lib.hid hr; clear hr
    have hz : ((a.toNat : Int) == 0) = false := by
      rw [beq_eq_false_iff_ne]
      intro e
      exact h (BitVec.eq_of_toNat_eq (by simpa using e))
    clear h
    go_enter Try.func16, Try.ntmps16
    go_wp2_with fail
    clear hz
    go_loopw [0, 2, 6] (fun sa sb si wr => ∃ (k : Nat), k ≤ 7 ∧ si = .int .i64 k ∧ sa = .int .u8 ((invTo a k).1.toNat : Int) ∧ sb = .int .u8 ((invTo a k).2.toNat : Int) ∧ Below w.heap.size w wr) (fun _ _ si _ => 7 - (intOf si).toNat)
    case atStart => exact ⟨0, by omega, rfl, rfl, rfl, Below.refl _ _⟩
    case round =>
      obtain ⟨k, hk, rfl, rfl, rfl, hB⟩ := hrel
      by_cases hlt : k < 7
      · go_wp2_with fail
        refine (mul_u _ _ _).mono ?_
        rintro e w1 ⟨rfl, hb1⟩
        go_wp2_with fail
        refine (mul_u _ _ _).mono ?_
        rintro e w2 ⟨rfl, hb2⟩
        go_wp2_with fail
        go_roundw
        case rel => exact ⟨k + 1, by omega, by go_num, rfl, rfl, bthen (bthen hB hb1) hb2⟩
        case measure => simp [intOf]; omega
      · obtain rfl : k = 7 := by omega
        go_wp2_with fail
        go_ret2
        exact ⟨by rw [HR.out]; rfl, hB⟩
end Go.Proofs.Ytillfbohengpaaa
end
section
set_option linter.unusedVariables false
set_option linter.unusedSimpArgs false
namespace Go.Proofs.Ytillfbohengpaaa
open Go.RowKit Go.Shelf Gf
attribute [local go_sem] Oper.semAt_some
theorem powers_u (a : G) (w : World) : Calls Try.prog 39 #[.int .u8 (a.toNat : Int)] w fun e w' =>
    e = .returned (.func (.func 56) #[] #[.pointer (some ⟨w.heap.size, 0, none⟩)]) ∧ w' = w.alloc (.cells #[.int .u8 (a.toNat : Int)] 5) := by
  go_enter Try.func39, Try.ntmps39
  go_wp2_with fail
  go_ret
  exact ⟨rfl, rfl⟩
set_option maxHeartbeats 1000000 in
theorem powers_seq (a : G) (B N n : Nat) (w : World) :
    SeqJ Fence.wide n Try.prog 56 #[.pointer (some ⟨B, 0, none⟩)] (fun x : G => #[.int .u8 (x.toNat : Int)])
      (fun pre W => W.cell? ⟨B, 0, none⟩ = some (.int .u8 (a.toNat : Int)) ∧ pre.length ≤ N) (fun pre x => x = pws a pre.length) (fun _ => False) (fun _ => True) w := by
  intro l J Jx W hW hJ hBd hY h0
  refine callsIn_of_wp Try.func56 rfl trivial ?_ rfl
  simp only [Try.ntmps56, List.size_toArray, List.length_cons, List.length_nil, Nat.reduceAdd, Nat.reduceSub, Array.replicate_succ, Array.replicate_zero, List.push_toArray, List.append_toArray, List.nil_append, List.cons_append]
  have hro : Fence.wide.round = none := rfl
  gi_wp2
  gi_loopw [3] (fun p wr => ∃ pre : List G, p = .int .u8 ((pws a pre.length).toNat : Int) ∧ J pre wr)
    (fun p wr => leastOf (fun m => ∃ pre : List G, pre.length + m = N ∧ p = .int .u8 ((pws a pre.length).toNat : Int) ∧ J pre wr))
  case atStart => exact ⟨[], rfl, h0⟩
  case round =>
    obtain ⟨pre0, rfl, hJ0⟩ := hrel
    have hp0 : ∃ m, (∃ pre : List G, pre.length + m = N ∧ Value.int .u8 ((pws a pre0.length).toNat : Int) = .int .u8 ((pws a pre.length).toNat : Int) ∧ J pre wr) := ⟨N - pre0.length, pre0, by have := (hBd _ _ hJ0).2; omega, rfl, hJ0⟩
    obtain ⟨⟨pre, hlen, hpe, hJp⟩, _⟩ := leastOf_spec hp0
    have hq : pws a pre0.length = pws a pre.length := by
      simp only [Value.int.injEq, true_and] at hpe
      exact BitVec.eq_of_toNat_eq (by omega)
    have HQ := Lib.hid hq
    have HL := Lib.hid hlen
    clear hq hlen hpe hp0 hJ0
    obtain ⟨fn, tmps, assign, body, hy, hR⟩ := hY pre (pws a pre.length) wr hJp rfl
    rw [← HQ.out] at hy hR
    gi_wp2
    refine ⟨fun h => absurd h (by decide), hR.mono ?_⟩
    rintro e W3 (⟨rfl, hJ3⟩ | ⟨rfl, hJx3⟩)
    · obtain ⟨hc3, hl3⟩ := hBd _ _ hJ3
      gi_wp2
      refine ⟨trivial, fun h => absurd h (by decide), (callsIn_wide.2 (mul_u _ _ _)).mono ?_⟩
      rintro e W4 ⟨rfl, hb4⟩
      gi_wp2
      have hJ4 := hJ _ _ _ none hJ3 (grown_of_below hb4 none) (fun r e => by cases e)
      have hp1 : ∃ m, (∃ p : List G, p.length + m = N ∧ Value.int .u8 ((mul (pws a pre0.length) a).toNat : Int) = .int .u8 ((pws a p.length).toNat : Int) ∧ J p W4) :=
        ⟨N - (pre.length + 1), pre ++ [pws a pre0.length], by simp at hl3 ⊢; omega, by simp [HQ.out, pws], hJ4⟩
      go_roundw
      case rel => exact ⟨pre ++ [pws a pre0.length], by simp [HQ.out, pws], hJ4⟩
      case measure =>
        have hl := HL.out
        refine Nat.lt_of_le_of_lt ((leastOf_spec hp1).2 (N - (pre.length + 1)) ⟨pre ++ [pws a pre0.length], by simp at hl3 ⊢; omega, by simp [HQ.out, pws], hJ4⟩) ?_
        show _ < leastOf _
        simp at hl3
        omega
    · gi_wp2
      go_end0
      exact ⟨⟨_, rfl⟩, .inr ⟨_, trivial, hJx3⟩⟩
theorem eval_round (n : Nat) (w W W4 : World) (A : Option Addr) (c k : Nat) (x : G) (l : List G) (y : G) (hn : n = w.heap.size) (hB : Below n w W) (hb4 : Below W.heap.size W W4) (hlt : k < l.length) (hsz : n + 1 + 1 + 1 < W.heap.size)
    (hc0 : W.cell? ⟨n, 0, none⟩ = some (.slice A l.length c)) (k1 : W4.cell? ⟨n + 1, 0, none⟩ = some (gv y)) (k2 : W4.frozen? ⟨n + 1, 0, none⟩ = false)
    (k3 : W4.cell? ⟨n + 1 + 1, 0, none⟩ = some (.int .i64 (k : Int))) (k4 : W4.frozen? ⟨n + 1 + 1, 0, none⟩ = false) (hc3 : W.cell? ⟨n + 1 + 1 + 1, 0, none⟩ = some (gv x)) (z : G) (hz : evTo l x (k + 1) = z) (pre : List G) (hp : pre.length = k + 1) :
    KeepsOthers W ((W4.setCell ⟨n + 1, 0, none⟩ (gv z)).setCell ⟨n + 1 + 1, 0, none⟩ (.int .i64 ((k : Int) + 1))) ∧
    ((pre.length ≤ l.length ∧ ((W4.setCell ⟨n + 1, 0, none⟩ (gv z)).setCell ⟨n + 1 + 1, 0, none⟩ (.int .i64 ((k : Int) + 1))).cell? ⟨n, 0, none⟩ = some (.slice A l.length c) ∧
      ((W4.setCell ⟨n + 1, 0, none⟩ (gv z)).setCell ⟨n + 1 + 1, 0, none⟩ (.int .i64 ((k : Int) + 1))).cell? ⟨n + 1, 0, none⟩ = some (gv (evTo l x pre.length)) ∧
      ((W4.setCell ⟨n + 1, 0, none⟩ (gv z)).setCell ⟨n + 1 + 1, 0, none⟩ (.int .i64 ((k : Int) + 1))).frozen? ⟨n + 1, 0, none⟩ = false ∧
      ((W4.setCell ⟨n + 1, 0, none⟩ (gv z)).setCell ⟨n + 1 + 1, 0, none⟩ (.int .i64 ((k : Int) + 1))).cell? ⟨n + 1 + 1, 0, none⟩ = some (.int .i64 (pre.length : Int)) ∧
      ((W4.setCell ⟨n + 1, 0, none⟩ (gv z)).setCell ⟨n + 1 + 1, 0, none⟩ (.int .i64 ((k : Int) + 1))).frozen? ⟨n + 1 + 1, 0, none⟩ = false ∧
      ((W4.setCell ⟨n + 1, 0, none⟩ (gv z)).setCell ⟨n + 1 + 1, 0, none⟩ (.int .i64 ((k : Int) + 1))).cell? ⟨n + 1 + 1 + 1, 0, none⟩ = some (gv x)) ∧
      Below n w ((W4.setCell ⟨n + 1, 0, none⟩ (gv z)).setCell ⟨n + 1 + 1, 0, none⟩ (.int .i64 ((k : Int) + 1)))) := by
  subst hz
  have h0 : W4.cell? ⟨n, 0, none⟩ = some (.slice A l.length c) := (hb4.cell (p := ⟨n, 0, none⟩) (by show n < _; omega)).trans hc0
  have h3 : W4.cell? ⟨n + 1 + 1 + 1, 0, none⟩ = some (gv x) := (hb4.cell (p := ⟨n + 1 + 1 + 1, 0, none⟩) hsz).trans hc3
  refine ⟨((keepsOthers_below hb4).trans (KeepsOthers.setCell _ _ _)).trans (KeepsOthers.setCell _ _ _), ⟨by omega, ?_, ?_, ?_, ?_, ?_, ?_⟩, ?_⟩
  · rw [cell_set_ne _ _ _ _ (by dsimp only; omega), cell_set_ne _ _ _ _ (by dsimp only; omega)]; exact h0
  · rw [cell_set_ne _ _ _ _ (by dsimp only; omega), hp]; exact World.cell?_setCell_same' _ _ _ (by rw [k1]; rfl)
  · rw [World.frozen?_setCell, World.frozen?_setCell]; exact k2
  · rw [hp]; exact World.cell?_setCell_same' _ _ _ (by rw [cell_set_ne _ _ _ _ (by dsimp only; omega), k3]; rfl)
  · rw [World.frozen?_setCell, World.frozen?_setCell]; exact k4
  · rw [cell_set_ne _ _ _ _ (by dsimp only; omega), cell_set_ne _ _ _ _ (by dsimp only; omega)]; exact h3
  · exact ((hB.trans (hb4.mono (by omega))).setCell (p := ⟨n + 1, 0, none⟩) (by simp) _).setCell (p := ⟨n + 1 + 1, 0, none⟩) (by show n ≤ n + 1 + 1; omega) _
set_option maxRecDepth 100000 in
set_option maxHeartbeats 2000000 in
theorem eval_u (A : Option Addr) (n c : Nat) (l : List G) (x : G) (w : World) (hr : RL gv w A n l) :
    Calls Try.prog 22 #[.slice A n c, .int .u8 (x.toNat : Int)] w fun e w' => e = .returned (.int .u8 ((ev l x).toNat : Int)) ∧ Below w.heap.size w w' := by
  obtain rfl := hr.1
  refine (callsIn_wide (n := 5)).1 ?_
  refine callsIn_of_wp_marks Try.func22 rfl trivial ?_ rfl
  simp only [Try.ntmps22, List.size_toArray, List.length_cons, List.length_nil, Nat.reduceAdd, Nat.reduceSub, Array.replicate_succ, Array.replicate_zero, List.push_toArray, List.append_toArray, List.nil_append, List.cons_append]
  have hro : Fence.wide.round = none := rfl
  gi_wp2
  refine ⟨trivial, (callsIn_wide.2 (powers_u _ _)).mono ?_⟩
  rintro e w1 ⟨rfl, rfl⟩
  gi_wp2
  have h4 : ∀ y : World, y = (((w.alloc (.cells #[.slice A l.length c] 30)).alloc (.cells #[.int .u8 0] 5)).alloc (.cells #[.int .i64 0] 3)).alloc (.cells #[gv x] 5) →
      y.heap.size = w.heap.size + 4 ∧ Below w.heap.size w y ∧ y.cell? ⟨w.heap.size, 0, none⟩ = some (.slice A l.length c) ∧ y.cell? ⟨w.heap.size + 1, 0, none⟩ = some (.int .u8 0) ∧ y.frozen? ⟨w.heap.size + 1, 0, none⟩ = false ∧
      y.cell? ⟨w.heap.size + 2, 0, none⟩ = some (.int .i64 0) ∧ y.frozen? ⟨w.heap.size + 2, 0, none⟩ = false ∧ y.cell? ⟨w.heap.size + 3, 0, none⟩ = some (gv x) := by
    rintro y rfl
    refine ⟨by simp, balloc (balloc (balloc (below_alloc1 _ _) _) _) _, ?_, ?_, ?_, ?_, ?_, ?_⟩
    · rw [cell_old _ _ _ (by simp; omega), cell_old _ _ _ (by simp; omega), cell_old _ _ _ (by simp), cell_new _ _ _ _ _ _ rfl]; rfl
    · rw [cell_old _ _ _ (by simp), cell_old _ _ _ (by simp), cell_new _ _ _ _ _ _ (by simp)]; rfl
    · rw [frozen_old _ _ _ (by simp), frozen_old _ _ _ (by simp), frozen_new _ _ _ _ _ (by simp)]
    · rw [cell_old _ _ _ (by simp), cell_new _ _ _ _ _ _ (by simp)]; rfl
    · rw [frozen_old _ _ _ (by simp), frozen_new _ _ _ _ _ (by simp)]
    · rw [cell_new _ _ _ _ _ _ (by simp)]; rfl
  generalize hW0 : (((w.alloc (.cells #[.slice A l.length c] 30)).alloc (.cells #[.int .u8 0] 5)).alloc (.cells #[.int .i64 0] 3)).alloc (.cells #[gv x] 5) = W0
  obtain ⟨hsz, hB0, hc0, hc1, hf1, hc2, hf2, hc3⟩ := h4 W0 hW0.symm
  clear h4 hW0
  have hcl : l.length ≤ 9223372036854775807 := hr.2.1
  refine rangeFuncJ hro (by decide) (gf := 56) (lb := #[.pointer (some ⟨w.heap.size + 1 + 1 + 1, 0, none⟩)]) rfl trivial (enters_of Try.func56 (by kernel_rfl) rfl)
    (powers_seq x (w.heap.size + 1 + 1 + 1) l.length _ _) (fun _ => rfl)
    (fun pre W => (pre.length ≤ l.length ∧ W.cell? ⟨w.heap.size, 0, none⟩ = some (.slice A l.length c) ∧ W.cell? ⟨w.heap.size + 1, 0, none⟩ = some (gv (evTo l x pre.length)) ∧ W.frozen? ⟨w.heap.size + 1, 0, none⟩ = false ∧
      W.cell? ⟨w.heap.size + 1 + 1, 0, none⟩ = some (.int .i64 (pre.length : Int)) ∧ W.frozen? ⟨w.heap.size + 1 + 1, 0, none⟩ = false ∧ W.cell? ⟨w.heap.size + 1 + 1 + 1, 0, none⟩ = some (gv x)) ∧ Below w.heap.size w W)
    (fun co pre W => (co = .exit 0 ∧ W.cell? ⟨w.heap.size + 1, 0, none⟩ = some (gv (ev l x)) ∧ W.frozen? ⟨w.heap.size + 1, 0, none⟩ = false) ∧ Below w.heap.size w W)
    (OwnFrom.and (Own.from (fun s A B row hs hg hr => ⟨hs.1, cell_kept hs.2.1 hg hr, cell_kept hs.2.2.1 hg hr, (frozen_kept hs.2.2.1 hg hr).trans hs.2.2.2.1, cell_kept hs.2.2.2.2.1 hg hr, (frozen_kept hs.2.2.2.2.1 hg hr).trans hs.2.2.2.2.2.1, cell_kept hs.2.2.2.2.2.2 hg hr⟩) _) (ownFrom_below (Nat.le_refl _) (by omega)))
    (fun co => OwnFrom.and (Own.from (fun s A B row hs hg hr => ⟨hs.1, cell_kept hs.2.1 hg hr, (frozen_kept hs.2.1 hg hr).trans hs.2.2⟩) _) (ownFrom_below (Nat.le_refl _) (by omega)))
    (fun pre W h => ⟨h.1.2.2.2.2.2.2, h.1.1⟩)
    ⟨⟨by simp, hc0, hc1, hf1, hc2, hf2, hc3⟩, hB0⟩
    (fun p => { tmps := #[.slice A l.length c, gv x, .pointer (some ⟨w.heap.size, 0, none⟩), undef, .pointer (some ⟨w.heap.size + 1, 0, none⟩), .pointer (some ⟨w.heap.size + 1 + 1, 0, none⟩), gv p, gv x, .func (.func 56) #[] #[.pointer (some ⟨w.heap.size + 1 + 1 + 1, 0, none⟩)], gv p, undef, undef, undef, undef, undef, undef, undef, undef, undef, undef, undef, undef, undef, undef, undef], defers := [] })
    ?assign ?body ?done ?stop
  case assign =>
    intro l x W K hK
    gi_wp2
    exact hK
  case body =>
    rintro lo pre p W ⟨⟨hk, hc0, hc1, hf1, hc2, hf2, hc3⟩, hB⟩ rfl
    by_cases hlt : pre.length < l.length
    · obtain ⟨b, o, rfl, hb, hcb⟩ := hr.2.2 pre.length hlt
      have hcw := (hB.cell (p := ⟨b, o + pre.length, none⟩) hb).trans hcb
      have hct : ((pre.length : Int) == (l.length : Int)) = false := by rw [beq_eq_false_iff_ne]; omega
      gi_wp2
      have hmo : Try.prog.follows .mixedOrders = true := by kernel_rfl
      have h3 := World.block_lt_of_cell? W _ hc3
      have h1 : w.heap.size + 1 < W.heap.size := by dsimp only at h3; omega
      have h2 : w.heap.size + 1 + 1 < W.heap.size := by dsimp only at h3; omega
      gi_region_with_o (refine ⟨trivial, (CallsIn.inRound lo (callsIn_wide.2 (mul_u _ _ _))).mono ?_⟩; rintro e W4 ⟨rfl, hb4⟩; replace hb4 : Below W.heap.size W W4 := ⟨hb4.os, hb4.tape, hb4.output, hb4.size, hb4.block⟩; have k1 := (hb4.cell (p := ⟨w.heap.size + 1, 0, none⟩) h1).trans hc1; have k2 := (hb4.frozen (p := ⟨w.heap.size + 1, 0, none⟩) h1).trans hf1; have k3 := (hb4.cell (p := ⟨w.heap.size + 1 + 1, 0, none⟩) h2).trans hc2; have k4 := (hb4.frozen (p := ⟨w.heap.size + 1 + 1, 0, none⟩) h2).trans hf2)
      all_goals
        have hb5 : Below W.heap.size W ‹World› := by assumption
        gi_wp2
        rw [bits_xor_g]
        exact eval_round w.heap.size w W _ _ c pre.length x l _ rfl hB hb5 hlt h3 hc0 (by assumption) (by assumption) (by assumption) (by assumption) hc3 _ (evTo_succ l x _ hlt) _ (by simp)
    · have hl : pre.length = l.length := by omega
      have he : evTo l x pre.length = ev l x := by rw [hl, evTo_all]
      rw [he] at hc1
      have HE := Lib.hid he; clear he
      have ht : ((pre.length : Int) == (l.length : Int)) = true := by rw [hl]; simp
      clear hl
      gi_wp2
      exact ⟨KeepsOthers.refl _, ⟨rfl, hc1, hf1⟩, hB⟩
  case done =>
    intro D xs W _ h
    exact h.elim
  case stop =>
    rintro D co pre W hD _ ⟨⟨rfl, hc, hf⟩, hB⟩ hK
    gi_wp2
    have hK' := (KeepsOthers.setCell W ⟨w.heap.size + 1, 0, none⟩ (gv (ev l x))).same D _ hK rfl
    have hc5 := cell_kept (World.cell?_setCell_same' W ⟨w.heap.size + 1, 0, none⟩ (gv (ev l x)) (by rw [hc]; rfl)) (grownBy_putObj' _ D (.deferred none)) (fun r e => by cases e; exact ⟨_, hK', rfl⟩)
    refine ⟨by simp, .inl ⟨_, _, rfl, run_takeDeferred hK', ?_⟩⟩
    refine ⟨gv (ev l x), ?_, rfl, (hB.setCell (p := ⟨w.heap.size + 1, 0, none⟩) (by simp) _).trans (belowK_b (w := w) (Nat.le_refl _) _ D _ _ (by omega) hK' rfl rfl)⟩
    simp [results, Try.f22, go_sem, hc5]
end Go.Proofs.Ytillfbohengpaaa
end
section
set_option linter.unusedVariables false
set_option linter.unusedSimpArgs false
namespace Go.Proofs.Ytillfbohengpaaa
open Go.RowKit Gf Go.Sort
attribute [local go_sem] bits_gx
theorem Try.info5 : (Try.prog.info? 5).map (fun i => (i.zero, i.size, i.bytes)) = some (some (.int .u8 0), 1, 1) := by kernel_rfl
theorem slice_u8 : Try.prog.underlying 30 = some (.slice 5) := by kernel_rfl
theorem mixed : Try.prog.follows .mixedOrders = true := by kernel_rfl
theorem RL.atg {w : World} {A : Option Addr} {n : Nat} {l : List G} (h : RL gv w A n l) (j : Nat) (hj : j < n) : ∃ b o, A = some ⟨b, o, none⟩ ∧ b < w.heap.size ∧ w.cell? ⟨b, o + j, none⟩ = some (gv (g l j)) := by
  obtain ⟨b, o, h1, h2, h3⟩ := h.at j hj
  exact ⟨b, o, h1, h2, by rw [h3, g_eq l j (by rw [h.1]; exact hj)]⟩
theorem OwnL.cellg {E : TypeId} {w : World} {base n g0 cap : Nat} {l : List G} (h : OwnL gv E w base (.slice (some ⟨g0, 0, none⟩) n cap) n l) (j : Nat) (hj : j < n) : w.cell? ⟨g0, j, none⟩ = some (gv (g l j)) := by
  have := h.length
  rw [h.cell j (by omega), g_eq l j (by omega)]
theorem g_scale (c : G) (l : List G) (j : Nat) (h : j < l.length) : g (scale c l) j = mul c (g l j) := by
  rw [g_eq _ j (by simpa [scale] using h), g_eq l j h]; simp [scale]
theorem addTo_step (c T : G) (l z : List G) (j k : Nat) (hl : l.length = k) (hz : z.length = k) (hj : j < k) (hT : T = g (addTo l (scale c z) j) j) : (addTo l (scale c z) j).set j (gx T (mul c (g z j))) = addTo l (scale c z) (j + 1) := by
  have h := addTo_set l (scale c z) j (by omega) (by rw [addTo_length]; omega)
  rw [g_scale c z j (by omega), ← g_eq _ j (by rw [addTo_length]; omega), ← hT] at h
  exact h
theorem lin_mid (x T : G) (z : List G) (j : Nat) (hT : T = g (linTo z x 1#8 j) j) : (linTo z x 1#8 j).set j (gx T (mul (g z j) x)) = linMid z x 1#8 j := by
  subst hT; rfl
theorem lin_step (x V : G) (z : List G) (j : Nat) (hj : j < z.length) (hV : V = g (linMid z x 1#8 j) (j + 1)) : (linMid z x 1#8 j).set (j + 1) (gx V (g z j)) = linTo z x 1#8 (j + 1) := by
  have h := linTo_set z x 1#8 j hj
  rw [mul_one, ← hV] at h
  exact h
theorem invR_fst (a : G) : (invR a).1 = inv a := by
  unfold invR
  split
  · rename_i h; subst h; decide +kernel
  · rfl
theorem nt_next (xs ys : List G) (k : Nat) (z l l1 : List G) (X Y C : G) (HS : ntTo xs ys k = (z, l)) (hX : X = g xs k) (hY : Y = g ys k) (hl1 : l ++ [0#8] = l1) (hC : C = mul (gx Y (ev l X)) (invR (ev z X)).1) :
    ntTo xs ys (k + 1) = (lin z X 1#8, add l1 (scale C z)) := by
  subst hl1 hC hX hY
  rw [ntTo, HS, invR_fst]
  rfl
theorem coefs_bad (A B : Option Addr) (c d n m : Nat) (xs ys : List G) (w : World) (hx : RL gv w A n xs) (hy : RL gv w B m ys) (hn : ¬ (xs.Nodup ∧ n = m)) :
    Calls Try.prog 20 #[.slice A n c, .slice B m d] w fun e w' => e = .returned (.tuple #[.slice none 0 0, .int .i64 1]) ∧ Below w.heap.size w w' := by
  have hd : decide (xs.Nodup ∧ n = m) = false := decide_eq_false hn
  clear hn
  go_enter Try.func20, Try.ntmps20
  go_wp2_with fail
  refine (points_u _ _ _ _ _ _ _ _ hx).mono ?_
  rintro e w1 ⟨rfl, hb1⟩
  rw [hd]
  go_wp2_with fail
  go_ret2
  exact ⟨rfl, hb1⟩
set_option maxRecDepth 100000 in
set_option maxHeartbeats 2000000 in
theorem coefs_ok (A B : Option Addr) (c d n : Nat) (xs ys : List G) (w : World) (hx : RL gv w A n xs) (hy : RL gv w B n ys) (hn : xs.Nodup) (hb : n ≤ 1000) :
    Calls Try.prog 20 #[.slice A n c, .slice B n d] w fun e w' => ∃ v, e = .returned (.tuple #[v, .int .i64 0]) ∧ OwnL gv 5 w' w.heap.size v n (coefs xs ys) ∧ Below w.heap.size w w' := by
  have hlx := Lib.hid hx.1
  obtain ⟨i0, hi, hz0, hz1, hz2⟩ := info_parts Try.info5
  go_enter Try.func20, Try.ntmps20
  go_wp2_with fail
  refine (points_u _ _ _ _ _ _ _ _ hx).mono ?_
  rintro e w1 ⟨rfl, hb1⟩
  rw [show decide (xs.Nodup ∧ n = n) = true from decide_eq_true ⟨hn, rfl⟩]
  go_wp2_with fail
  generalize hW0 : w1.alloc _ = W0
  have hz : OwnL gv 5 W0 w.heap.size (.slice (some ⟨w1.heap.size, 0, none⟩) 1 1) 1 [1#8] := by
    rw [← hW0]; exact OwnL.lit w1 _ [1#8] 1 rfl rfl hb1.size (by decide)
  have hB0 : Below w.heap.size w W0 := by rw [← hW0]; exact balloc hb1 _
  clear hW0
  go_loopw [4, 6, 24] (fun lv zv si wr => ∃ (k : Nat) (z l : List G), k ≤ n ∧ si = .int .i64 k ∧ Hid (ntTo xs ys k = (z, l)) ∧ OwnL gv 5 wr w.heap.size lv k l ∧ OwnL gv 5 wr w.heap.size zv (k + 1) z ∧ (lv.ownBlock = none ∨ lv.ownBlock ≠ zv.ownBlock) ∧ Below w.heap.size w wr)
    (fun _ _ si _ => n - (intOf si).toNat)
  case atStart => exact ⟨0, [1#8], [], by omega, rfl, rfl, OwnL.nil _ _ _ _, hz, .inl rfl, hB0⟩
  case round =>
    obtain ⟨k, z, l, hk, rfl, HS, hol, hoz, hne, hB⟩ := hrel
    clear hz hB0
    by_cases hlt : k < n
    · obtain ⟨bx, ox, rfl, hbx, hcx⟩ := hx.atg k hlt
      obtain ⟨b_y, oy, rfl, hby, hcy⟩ := hy.atg k hlt
      obtain ⟨X, HX⟩ : ∃ X, Hid (X = g xs k) := ⟨_, rfl⟩
      obtain ⟨Y, HY⟩ : ∃ Y, Hid (Y = g ys k) := ⟨_, rfl⟩
      rw [← HX.out] at hcx
      rw [← HY.out] at hcy
      have hcx' := (hB.cell (p := ⟨bx, ox + k, none⟩) hbx).trans hcx
      obtain ⟨gz, capz, rfl, hgz, hgzlt⟩ := hoz.form (by omega)
      have hrz := hoz.rlg
      obtain ⟨Al, cl, rfl, hrl⟩ := hol.rl
      clear hcx
      go_wp2_with fail
      refine (eval_u _ _ _ _ _ _ hrz).mono ?_
      rintro e w2 ⟨rfl, hb2⟩
      go_wp2_with fail
      refine (inv_u _ _).mono ?_
      rintro e w3 ⟨rfl, hb3⟩
      go_wp2_with fail
      have hb23 : Below wr.heap.size wr w3 := bthen hb2 hb3
      have hB3 := bthen hB hb23
      have hcy' : ∀ (dr : Nat) (os : Array Obj), (grow (redrawn w3 dr) os).cell? ⟨b_y, oy + k, none⟩ = some (gv Y) := cell_regrown ((hB3.cell (p := ⟨b_y, oy + k, none⟩) hby).trans hcy)
      have hrl3 := hrl.below hb23
      refine wp_region_quiet_below mixed (by kernel_rfl) ?_
      repeat (quiet_step ((first | (go_at_call 22; exact Calls.regrown_of (eval_u _ _ _ _ _ _ (hrl3.below (below_regrown _ _ _)))) | (go_at_call 18; exact Calls.regrown_of (mul_u _ _ _)))))
      refine wpQuiet_nil ?_
      rintro _ ⟨p4, rfl⟩
      have hb4 := below_regrown w3 p4.d p4.os
      generalize grow (redrawn w3 p4.d) p4.os = w4 at *
      clear hcy' hrl3 hrz hrl hcx' hcy
      have hb24 := bthen hb23 hb4
      have hB4 := bthen hB hb24
      replace hol := hol.below hb24
      replace hoz := hoz.below hb24
      generalize Value.slice Al k cl = lv4 at *
      go_wp2_with (at_builtin; refine wpList_app rfl _ _ 30 rfl 0#8 rfl slice_u8 hi hz0 hz1 hz2 rfl rfl rfl hol rfl hB4.size (by omega) (by omega) ?_; intro v5 w5 hol5 hgr5 hob5)
      have hlow : Below w.heap.size w w5 := hB4.grown hgr5 hB4.size (fun k hk => (hol.lt k hk).1)
      have hgz4 : gz < w4.heap.size := (hoz.lt gz rfl).2
      have hzn : some gz ≠ lv4.ownBlock := by
        rcases hne with h | h
        · rw [h]; simp
        · exact fun e => h e.symm
      have hoz5 := hoz.kept hgr5 (.inr hzn)
      obtain ⟨g5, cap5, rfl, hg5, hg5lt⟩ := hol5.form (by omega)
      have h5z : g5 ≠ gz := by
        rintro rfl
        rcases hob5 with h | h
        · exact hzn h
        · have : g5 = w4.heap.size + 1 := Option.some.inj h
          omega
      obtain ⟨C, HC⟩ : ∃ C, Hid (C = mul (gx Y (ev l X)) (invR (ev z X)).1) := ⟨_, rfl⟩
      rw [← HC.out]
      have hll : (l ++ [0#8]).length = k + 1 := hol5.length
      have hlz : z.length = k + 1 := hoz5.length
      generalize hl1 : l ++ [0#8] = l1 at *
      have HL1 := Lib.hid hl1; clear hl1
      rw [← addTo_zero l1 (scale C z)] at hol5
      replace hll := Lib.hid hll
      replace hlz := Lib.hid hlz
      have Hne := Lib.hid h5z
      clear hgr5 hob5 hzn hoz hol hne h5z
      go_loopw [51] (fun si wr => ∃ (j : Nat), j ≤ k + 1 ∧ si = .int .i64 j ∧ OwnL gv 5 wr w.heap.size (.slice (some ⟨g5, 0, none⟩) (k + 1) cap5) (k + 1) (addTo l1 (scale C z) j) ∧ OwnL gv 5 wr w.heap.size (.slice (some ⟨gz, 0, none⟩) (k + 1) capz) (k + 1) z ∧ Below w.heap.size w wr)
        (fun si _ => k + 1 - (intOf si).toNat)
      case atStart => exact ⟨0, by omega, rfl, hol5, hoz5, hlow⟩
      case round =>
        obtain ⟨j, hj, rfl, hl6, hz6, hB6⟩ := hrel
        clear hol5 hoz5 hlow hgz4 hB4 hb24 hb4
        by_cases hjlt : j < k + 1
        · have hcz := hz6.cellg j hjlt
          have hcl := hl6.cellg j hjlt
          generalize hT : g (addTo l1 (scale C z) j) j = T at hcl
          have HT := Lib.hid hT.symm; clear hT
          go_wp2_with fail
          have hcl' : ∀ (dr : Nat) (os : Array Obj), (grow (redrawn wr dr) os).cell? ⟨g5, j, none⟩ = some (gv T) := cell_regrown hcl
          refine wp_region_qt 8 mixed (by kernel_rfl) (by decide) (by kernel_rfl) ?_
          repeat (quiet_step ((go_at_call 18; exact Calls.regrown_of (mul_u _ _ _))))
          refine wpQuiet_nil ?_
          intro w7 hb7
          have hg5w := (hl6.lt g5 rfl).2
          replace hl6 := hl6.below hb7
          replace hz6 := hz6.below hb7
          replace hB6 := bthen hB6 hb7
          have hcl7 : w7.cell? ⟨g5, j, none⟩ = some (gv T) := (hb7.cell (p := ⟨g5, j, none⟩) hg5w).trans hcl
          have hfr := hl6.free j
          clear hcl' hcl hcz
          go_wp2_with fail
          refine ⟨⟨j + 1, by omega, by go_num, ?_, ?_, ?_⟩, by simp [intOf]; omega⟩
          · rw [← addTo_step C T l1 z j (k + 1) hll.out hlz.out hjlt HT.out]
            exact hl6.set j _
          · exact hz6.setOther _ _ (fun e => Hne.out (Option.some.inj e).symm)
          · exact hB6.setCell hg5 _
        · obtain rfl : j = k + 1 := by omega
          rw [addTo_all l1 (scale C z) (by simp [scale, hll.out, hlz.out]) (k + 1) (by rw [hll.out]; omega)] at hl6
          go_wp2_with (at_make; refine wpList_mk (enc := gv) rfl _ _ 30 rfl 0#8 (k + 2) slice_u8 hi hz0 hz1 hz2 rfl _ _ _ _ rfl rfl (by omega) (by omega) (by omega) (by omega) hB6.size ?_; intro w7 hn7 hb7)
          have h5n : wr.heap.size ≠ g5 := Nat.ne_of_gt (hl6.lt g5 rfl).2
          have hzn : wr.heap.size ≠ gz := Nat.ne_of_gt (hz6.lt gz rfl).2
          have hBn := hB6.size
          replace hl6 := hl6.below hb7
          replace hz6 := hz6.below hb7
          replace hB6 := bthen hB6 hb7
          clear hb7
          generalize wr.heap.size = gn at *
          have HN5 := Lib.hid h5n
          have HNZ := Lib.hid hzn
          clear h5n hzn
          rw [show List.replicate (k + 2) 0#8 = linTo z X 1#8 0 by rw [linTo_zero, hlz.out]] at hn7
          go_loopw [72] (fun si wr => ∃ (j : Nat), j ≤ k + 1 ∧ si = .int .i64 j ∧ OwnL gv 5 wr w.heap.size (.slice (some ⟨gn, 0, none⟩) (k + 2) (k + 2)) (k + 2) (linTo z X 1#8 j) ∧ OwnL gv 5 wr w.heap.size (.slice (some ⟨g5, 0, none⟩) (k + 1) cap5) (k + 1) (add l1 (scale C z)) ∧ OwnL gv 5 wr w.heap.size (.slice (some ⟨gz, 0, none⟩) (k + 1) capz) (k + 1) z ∧ Below w.heap.size w wr)
            (fun si _ => k + 1 - (intOf si).toNat)
          case atStart => exact ⟨0, by omega, rfl, hn7, hl6, hz6, hB6⟩
          case round =>
            obtain ⟨j, hj, rfl, hn8, hl8, hz8, hB8⟩ := hrel
            clear hn7 hl6 hz6 hB6
            by_cases hjlt : j < k + 1
            · have hcz := hz8.cellg j hjlt
              have hcn := hn8.cellg j (by omega)
              generalize hT : g (linTo z X 1#8 j) j = T at hcn
              have HT := Lib.hid hT.symm; clear hT
              generalize hZ : g z j = Z at hcz
              have HZ := Lib.hid hZ.symm; clear hZ
              go_wp2_with fail
              have hcn' : ∀ (dr : Nat) (os : Array Obj), (grow (redrawn wr dr) os).cell? ⟨gn, j, none⟩ = some (gv T) := cell_regrown hcn
              have hj2 : j < k + 2 := by omega
              have hj3 : (j : Int) < (k : Int) + 2 := by omega
              have hj4 : (j : Int) + 1 < (k : Int) + 2 := by omega
              refine wp_region_qt 8 mixed (by kernel_rfl) (by decide) (by kernel_rfl) ?_
              repeat (quiet_step ((go_at_call 18; exact Calls.regrown_of (mul_u _ _ _))))
              refine wpQuiet_nil ?_
              intro w9 hb9
              have hgw := (hn8.lt gn rfl).2
              replace hn8 := hn8.below hb9
              replace hl8 := hl8.below hb9
              replace hz8 := hz8.below hb9
              replace hB8 := bthen hB8 hb9
              have hcn9 : w9.cell? ⟨gn, j, none⟩ = some (gv T) := (hb9.cell (p := ⟨gn, j, none⟩) hgw).trans hcn
              have hfr := hn8.free j
              have hfr1 := hn8.free (j + 1)
              have hmid := hn8.set j (gx T (mul Z X))
              rw [HZ.out, lin_mid X T z j HT.out, ← HZ.out] at hmid
              have hcm := hmid.cellg (j + 1) (by omega)
              generalize hV : g (linMid z X 1#8 j) (j + 1) = V at hcm
              have HV := Lib.hid hV.symm; clear hV
              have hfm := hmid.free (j + 1)
              clear hcn' hcn hcz
              go_wp2_with fail
              refine ⟨⟨j + 1, by omega, by go_num, ?_, ?_, ?_, ?_⟩, by simp [intOf]; omega⟩
              · rw [← lin_step X V z j (by have := hlz.out; omega) HV.out, ← HZ.out]
                exact hmid.set (j + 1) _
              · exact (hl8.setOther _ _ (fun e => HN5.out (Option.some.inj e).symm)).setOther _ _ (fun e => HN5.out (Option.some.inj e).symm)
              · exact (hz8.setOther _ _ (fun e => HNZ.out (Option.some.inj e).symm)).setOther _ _ (fun e => HNZ.out (Option.some.inj e).symm)
              · exact (hB8.setCell hBn _).setCell hBn _
            · obtain rfl : j = k + 1 := by omega
              have hnt := nt_next xs ys k z l l1 X Y C HS.out HX.out HY.out HL1.out HC.out
              have hla := linTo_all z X 1#8
              rw [hlz.out] at hla
              rw [hla] at hn8
              clear hla
              have HNT := Lib.hid hnt
              clear hnt
              go_wp2_with fail
              refine ⟨⟨k + 1, lin z X 1#8, add l1 (scale C z), by omega, by go_num, HNT.out, hl8, hn8, .inr (fun e => HN5.out (Option.some.inj e).symm), hB8⟩, by simp [intOf]; omega⟩
    · obtain rfl : k = n := by omega
      go_wp2_with fail
      go_ret2
      refine ⟨_, rfl, ?_, hB⟩
      have : coefs xs ys = l := by unfold coefs; rw [hlx.out, HS.out]
      rw [this]
      exact hol
end Go.Proofs.Ytillfbohengpaaa
end
section
set_option linter.unusedVariables false
set_option linter.unusedSimpArgs false
namespace Go.Proofs.Ytillfbohengpaaa
open Go.RowKit Gf Go.Sort
attribute [local go_sem] bits_gx
theorem through_ok (A B : Option Addr) (c d n : Nat) (xs ys : List G) (x : G) (w : World) (hx : RL gv w A n xs) (hy : RL gv w B n ys) (hn : xs.Nodup) (hb : n ≤ 1000) :
    Calls Try.prog 21 #[.slice A n c, .slice B n d, .int .u8 (x.toNat : Int)] w fun e w' => e = .returned (.tuple #[.int .u8 ((ev (coefs xs ys) x).toNat : Int), .int .i64 0]) ∧ Below w.heap.size w w' := by
  go_enter Try.func21, Try.ntmps21
  go_wp2_with fail
  refine (coefs_ok _ _ _ _ _ _ _ _ hx hy hn hb).mono ?_
  rintro e w1 ⟨v, rfl, hv, hb1⟩
  obtain ⟨Av, cv, rfl, hr⟩ := hv.rl
  go_wp2_with fail
  refine (eval_u _ _ _ _ _ _ hr).mono ?_
  rintro e w2 ⟨rfl, hb2⟩
  go_wp2_with fail
  go_ret2
  exact ⟨rfl, bthen hb1 hb2⟩
theorem RL.lit (w : World) (cs : Array Value) (l : List G) (n : Nat) (hcs : cs = (l.map gv).toArray) (hn : l.length = n) (hm : n ≤ 1000) : RL gv (w.alloc (.cells cs 5)) (some ⟨w.heap.size, 0, none⟩) n l :=
  (OwnL.lit (base := 0) w cs l n hcs hn (Nat.zero_le _) (by unfold maxLen; omega)).rlg
theorem und_str : Try.prog.underlying 9 = some .string := by kernel_rfl
theorem und_u8 : Try.prog.underlying 5 = some (.int .u8) := by kernel_rfl
end Go.Proofs.Ytillfbohengpaaa
end
section
set_option linter.unusedVariables false
set_option linter.unusedSimpArgs false
namespace Go.Proofs.Ytillfbohengpaaa
open Go.RowKit Gf Go.Sort
attribute [local go_sem] bits_gx
end Go.Proofs.Ytillfbohengpaaa
end
section
set_option linter.unusedVariables false
set_option linter.unusedSimpArgs false
namespace Go.Proofs.Ytillfbohengpaaa
open Go.RowKit Gf
def acc (a b : G) : Nat → BitVec 16
  | 0 => 0#16
  | k + 1 => if b.getLsbD k then acc a b k ^^^ (a.setWidth 16 <<< k) else acc a b k
def redTo (P : BitVec 16) : Nat → BitVec 16
  | 0 => P
  | j + 1 => if (redTo P j).getLsbD (14 - j) then redTo P j ^^^ (283#16 <<< (6 - j)) else redTo P j
theorem acc_xor (x y b : G) (k : Nat) : acc (x ^^^ y) b k = acc x b k ^^^ acc y b k := by
  induction k with
  | zero => simp [acc]
  | succ k ih =>
    simp only [acc]
    split
    · rw [ih]
      have : (x ^^^ y).setWidth 16 <<< k = x.setWidth 16 <<< k ^^^ y.setWidth 16 <<< k := by
        rw [← BitVec.shiftLeft_xor_distrib]; congr 1
      rw [this]; ac_rfl
    · exact ih
theorem red_xor (P Q : BitVec 16) (k : Nat) : redTo (P ^^^ Q) k = redTo P k ^^^ redTo Q k := by
  induction k with
  | zero => rfl
  | succ k ih =>
    simp only [redTo, ih, BitVec.getLsbD_xor]
    generalize redTo P k = p
    generalize redTo Q k = q
    generalize 283#16 <<< (6 - k) = z
    cases p.getLsbD (14 - k) <;> cases q.getLsbD (14 - k)
    · simp
    · simp; ac_rfl
    · simp; ac_rfl
    · simp only [Bool.xor_self, Bool.false_eq_true, if_false, if_true]
      have : p ^^^ z ^^^ (q ^^^ z) = p ^^^ q ^^^ (z ^^^ z) := by ac_rfl
      rw [this]; simp
def refm (a b : G) : G := (redTo (acc a b 8) 7).setWidth 8
theorem refm_xor (b x y : G) : refm (x ^^^ y) b = refm x b ^^^ refm y b := by
  unfold refm
  rw [acc_xor, red_xor]
  ext i
  simp
theorem refm_basis : ∀ (i : Fin 8) (b : G), refm (1#8 <<< i.val) b = mul (1#8 <<< i.val) b := by decide +kernel
theorem refm_mul (a b : G) : refm a b = mul a b := bits_ext (fun x => refm x b) (fun x => mul x b) (refm_xor b) (fun x y => xmul x y b) (fun i => refm_basis i b) a
theorem tbit (n k : Nat) : (((n : Int) / 2 ^ k).tmod 2 == 1) = n.testBit k := by
  have h1 : ((n : Int) / 2 ^ k).tmod 2 = ((n / 2 ^ k % 2 : Nat) : Int) := by
    rw [show (n : Int) / 2 ^ k = ((n / 2 ^ k : Nat) : Int) by simp]
    rw [Int.tmod_eq_emod_of_nonneg (Int.natCast_nonneg _)]
    simp
  rw [h1, Nat.testBit_eq_decide_div_mod_eq, Bool.eq_iff_iff, beq_iff_eq, decide_eq_true_eq]
  omega
theorem xor16 (P Q : BitVec 16) : bits .xor .i64 (P.toNat : Int) (Q.toNat : Int) = ((P ^^^ Q).toNat : Int) := by
  have hP := P.isLt
  have hQ := Q.isLt
  have hR := (P ^^^ Q).isLt
  have h1 : ∀ X : BitVec 16, BitVec.ofInt 64 (X.toNat : Int) = X.setWidth 64 := fun X => by
    apply BitVec.eq_of_toNat_eq
    simp
  have h3 : P.setWidth 64 ^^^ Q.setWidth 64 = (P ^^^ Q).setWidth 64 := by
    apply BitVec.eq_of_toNat_eq
    rw [BitVec.toNat_xor, BitVec.toNat_setWidth, BitVec.toNat_setWidth, BitVec.toNat_setWidth, Nat.mod_eq_of_lt (by omega), Nat.mod_eq_of_lt (by omega), Nat.mod_eq_of_lt (by omega), BitVec.toNat_xor]
  have h4 : ((P ^^^ Q).setWidth 64).toNat = (P ^^^ Q).toNat := by rw [BitVec.toNat_setWidth, Nat.mod_eq_of_lt (by omega)]
  unfold bits
  simp only [IntKind.bits]
  rw [IntKind.wrap_i64, h1, h1]
  change ((((P.setWidth 64 ^^^ Q.setWidth 64 : BitVec 64)).toNat : Int) + 9223372036854775808) % 18446744073709551616 - 9223372036854775808 = (((P ^^^ Q : BitVec 16)).toNat : Int)
  rw [h3, h4]
  omega
theorem shl16 (a : G) (k : Nat) (h : k < 8) : wrap64 ((a.toNat : Int) * 2 ^ k) = ((a.setWidth 16 <<< k).toNat : Int) := by
  have hk : k = 0 ∨ k = 1 ∨ k = 2 ∨ k = 3 ∨ k = 4 ∨ k = 5 ∨ k = 6 ∨ k = 7 := by omega
  have ha := a.isLt
  rcases hk with rfl | rfl | rfl | rfl | rfl | rfl | rfl | rfl <;> (simp [Nat.shiftLeft_eq]; unfold wrap64; omega)
theorem shl283 (j : Nat) (h : j < 7) : wrap64 ((283 : Int) * 2 ^ j) = ((283#16 <<< j).toNat : Int) := by
  have hk : j = 0 ∨ j = 1 ∨ j = 2 ∨ j = 3 ∨ j = 4 ∨ j = 5 ∨ j = 6 := by omega
  rcases hk with rfl | rfl | rfl | rfl | rfl | rfl | rfl <;> decide +kernel
set_option maxHeartbeats 1000000 in
theorem rmul_u (a b : G) (w : World) :
    Calls Try.prog 19 #[.int .u8 (a.toNat : Int), .int .u8 (b.toNat : Int)] w fun e w' => e = .returned (.int .u8 ((mul a b).toNat : Int)) ∧ Below w.heap.size w w' := by
  go_enter Try.func19, Try.ntmps19
  go_wp2_with fail
  go_loopw [5, 6] (fun sp si wr => ∃ (k : Nat), k ≤ 8 ∧ si = .int .i64 k ∧ sp = .int .i64 ((acc a b k).toNat : Int) ∧ wr = w) (fun _ si _ => 8 - (intOf si).toNat)
  case atStart => exact ⟨0, by omega, rfl, rfl, rfl⟩
  case round =>
    obtain ⟨k, hk, rfl, rfl, rfl⟩ := hrel
    by_cases hlt : k < 8
    · have hbit := tbit b.toNat k
      have hp : acc a b (k + 1) = if b.getLsbD k then acc a b k ^^^ (a.setWidth 16 <<< k) else acc a b k := rfl
      have HP := Lib.hid hp; clear hp
      cases hbb : b.toNat.testBit k with
      | true =>
        rw [hbb] at hbit
        rw [show b.getLsbD k = true from hbb] at HP
        clear hbb
        go_wp2_with fail
        refine ⟨⟨k + 1, by omega, by go_num, ?_, trivial⟩, by simp [intOf]; omega⟩
        rw [HP.out, if_pos rfl, shl16 a k hlt, xor16]
      | false =>
        rw [hbb] at hbit
        rw [show b.getLsbD k = false from hbb] at HP
        clear hbb
        go_wp2_with fail
        refine ⟨⟨k + 1, by omega, by go_num, ?_, trivial⟩, by simp [intOf]; omega⟩
        rw [HP.out, if_neg (by decide)]
    · obtain rfl : k = 8 := by omega
      generalize hP : acc a b 8 = P
      have HP := Lib.hid hP; clear hP
      go_wp2_with fail
      go_loopw [5, 7] (fun sp si wz => ∃ (j : Nat), j ≤ 7 ∧ si = .int .i64 (14 - (j : Int)) ∧ sp = .int .i64 ((redTo P j).toNat : Int) ∧ wz = wr) (fun _ si _ => (intOf si).toNat)
      case atStart => exact ⟨0, by omega, rfl, rfl, rfl⟩
      case round =>
        obtain ⟨j, hj, rfl, rfl, rfl⟩ := hrel
        by_cases hlt : j < 7
        · have hbit := tbit (redTo P j).toNat (14 - j)
          have hp : redTo P (j + 1) = if (redTo P j).getLsbD (14 - j) then redTo P j ^^^ (283#16 <<< (6 - j)) else redTo P j := rfl
          have HQ := Lib.hid hp; clear hp
          obtain ⟨t, ht⟩ : ∃ t, t = 14 - j := ⟨_, rfl⟩
          have ht2 : (14 : Int) - (j : Int) = (t : Int) := by omega
          rw [← ht] at hbit HQ
          rw [ht2]
          have ht3 : 8 ≤ t := by omega
          have ht4 : t ≤ 14 := by omega
          have HT := Lib.hid ht
          clear ht ht2
          cases hbb : (redTo P j).toNat.testBit t with
          | true =>
            rw [hbb] at hbit
            rw [show (redTo P j).getLsbD t = true from hbb] at HQ
            clear hbb
            go_wp2_with fail
            have hT := HT.out
            refine ⟨⟨j + 1, by omega, congrArg (Value.int .i64) (by omega), ?_, trivial⟩, by simp [intOf]; omega⟩
            rw [HQ.out, if_pos rfl, show t - 8 = 6 - j by omega, shl283 (6 - j) (by omega), xor16]
          | false =>
            rw [hbb] at hbit
            rw [show (redTo P j).getLsbD t = false from hbb] at HQ
            clear hbb
            go_wp2_with fail
            have hT := HT.out
            refine ⟨⟨j + 1, by omega, congrArg (Value.int .i64) (by omega), ?_, trivial⟩, by simp [intOf]; omega⟩
            rw [HQ.out, if_neg (by decide)]
        · obtain rfl : j = 7 := by omega
          go_wp2_with fail
          go_ret
          refine ⟨?_, Below.refl _ _⟩
          rw [← refm_mul, ← HP.out]
          unfold refm
          rw [HP.out, BitVec.toNat_setWidth]
          simp
set_option maxRecDepth 100000 in
set_option maxHeartbeats 1000000 in
theorem rinv_u (a : G) (w : World) :
    Calls Try.prog 17 #[.int .u8 (a.toNat : Int)] w fun e w' => e = .returned (.tuple #[.int .u8 ((invR a).1.toNat : Int), .int .i64 (invR a).2]) ∧ Below w.heap.size w w' := by
  go_enter Try.func17, Try.ntmps17
  go_wp2_with fail
  go_loopw [4] (fun si wr => ∃ (i : Nat), 1 ≤ i ∧ i ≤ 256 ∧ si = .int .i64 i ∧ Hid (∀ j : Nat, 1 ≤ j → j < i → mul a (BitVec.ofNat 8 j) ≠ 1#8) ∧ Below w.heap.size w wr) (fun si _ => 256 - (intOf si).toNat)
  case atStart => exact ⟨1, by omega, by omega, rfl, fun j h1 h2 => by omega, Below.refl _ _⟩
  case round =>
    obtain ⟨i, hi1, hi, rfl, HJ, hB⟩ := hrel
    by_cases hlt : i < 256
    · obtain ⟨X, hX⟩ : ∃ X, X = BitVec.ofNat 8 i := ⟨_, rfl⟩
      have hXi : (i : Int) = (X.toNat : Int) := by rw [hX, BitVec.toNat_ofNat]; omega
      have HX := Lib.hid hX
      have HXI := Lib.hid hXi
      clear hX hXi
      go_wp2_with fail
      have hc := rmul_u a X wr
      rw [← HXI.out] at hc
      refine hc.mono ?_
      clear hc
      rintro e w2 ⟨rfl, hb2⟩
      have hB2 := bthen hB hb2
      clear hb2
      by_cases h1 : mul a X = 1#8
      · have hd : (((mul a X).toNat : Int) == 1) = true := by rw [h1]; rfl
        have HA := Lib.hid h1
        clear h1
        go_wp2_with fail
        go_ret2
        have hne : a ≠ 0#8 := by
          rintro rfl
          have := HA.out
          rw [zero_mul] at this
          exact absurd this (by decide)
        refine ⟨?_, hB2⟩
        unfold invR
        rw [if_neg hne, ← inv_unique a X HA.out, ← HXI.out]
        rfl
      · have hd : (((mul a X).toNat : Int) == 1) = false := by
          rw [beq_eq_false_iff_ne]
          intro e
          exact h1 (BitVec.eq_of_toNat_eq (by have e2 : (BitVec.toNat (mul a X) : Int) = 1 := e; show BitVec.toNat (mul a X) = 1; omega))
        have HA := Lib.hid h1
        clear h1
        go_wp2_with fail
        refine ⟨⟨i + 1, by omega, by omega, by go_num, ?_, hB2⟩, by simp [intOf]; omega⟩
        intro j h1 h2
        by_cases e : j = i
        · subst e; rw [← HX.out]; exact HA.out
        · exact HJ.out j h1 (by omega)
    · obtain rfl : i = 256 := by omega
      have hz : a = 0#8 := by
        refine Classical.byContradiction fun h => ?_
        have h1 := HJ.out (inv a).toNat (by
          have := inv_ne a h
          have h2 : (inv a).toNat ≠ 0 := fun e => this (BitVec.eq_of_toNat_eq (by simpa using e))
          omega) (inv a).isLt
        rw [BitVec.ofNat_toNat, BitVec.setWidth_eq] at h1
        exact h1 (mul_inv a h)
      have HZ := Lib.hid hz
      clear hz
      go_wp2_with fail
      go_ret2
      refine ⟨?_, hB⟩
      unfold invR
      rw [if_pos HZ.out]
      rfl
end Go.Proofs.Ytillfbohengpaaa
end
section
set_option linter.unusedVariables false
set_option linter.unusedSimpArgs false
namespace Go.Proofs.Ytillfbohengpaaa
open Go.RowKit Gf
structure Sh where
  ep : Int
  ix : Int
  th : Int
  mn : Int
  da : List G
def SC (w : World) (b o : Nat) (s : Sh) : Prop :=
  w.cell? ⟨b, o, none⟩ = some (.int .i64 s.ep) ∧ w.cell? ⟨b, o + 1, none⟩ = some (.int .i64 s.ix) ∧ w.cell? ⟨b, o + 2, none⟩ = some (.int .i64 s.th) ∧ w.cell? ⟨b, o + 3, none⟩ = some (.int .i64 s.mn) ∧
    ∃ A n c, w.cell? ⟨b, o + 4, none⟩ = some (.slice A n c) ∧ RL gv w A n s.da
def RS (w : World) (A : Option Addr) (n : Nat) (l : List Sh) : Prop :=
  l.length = n ∧ n ≤ 9223372036854775807 ∧ ∀ j (h : j < l.length), ∃ b o, A = some ⟨b, o, none⟩ ∧ b < w.heap.size ∧ SC w b (o + j * 5) l[j]
theorem SC.below {w w' : World} {b o : Nat} {s : Sh} (hb : b < w.heap.size) (h : SC w b o s) (hw : Below w.heap.size w w') : SC w' b o s := by
  obtain ⟨h0, h1, h2, h3, A, n, c, h4, h5⟩ := h
  exact ⟨(hw.cell (p := ⟨b, o, none⟩) hb).trans h0, (hw.cell (p := ⟨b, o + 1, none⟩) hb).trans h1, (hw.cell (p := ⟨b, o + 2, none⟩) hb).trans h2, (hw.cell (p := ⟨b, o + 3, none⟩) hb).trans h3, A, n, c, (hw.cell (p := ⟨b, o + 4, none⟩) hb).trans h4, h5.below hw⟩
theorem RS.below {w w' : World} {A : Option Addr} {n : Nat} {l : List Sh} (h : RS w A n l) (hb : Below w.heap.size w w') : RS w' A n l :=
  ⟨h.1, h.2.1, fun j hj => by
    obtain ⟨b, o, e, hlt, hc⟩ := h.2.2 j hj
    exact ⟨b, o, e, Nat.lt_of_lt_of_le hlt hb.size, hc.below hlt hb⟩⟩
theorem RS.nil (w : World) (A : Option Addr) : RS w A 0 [] := ⟨rfl, by omega, fun j h => by simp at h⟩
theorem RS.at {w : World} {A : Option Addr} {n : Nat} {l : List Sh} (h : RS w A n l) (j : Nat) (hj : j < n) :
    ∃ b o, A = some ⟨b, o, none⟩ ∧ b < w.heap.size ∧ SC w b (o + j * 5) (l[j]'(by rw [h.1]; exact hj)) := h.2.2 j (by rw [h.1]; exact hj)
def headB (a : Sh) : Bool := decide (1 ≤ a.th) && decide (a.th ≤ a.mn) && decide (a.mn ≤ 8) && decide (a.da.length ≤ 64)
def okAt (a : Sh) (last : Int) (s : Sh) : Bool := decide (s.th = a.th) && decide (s.mn = a.mn) && decide (s.da.length = a.da.length) && decide (last < s.ix) && decide (s.ix ≤ s.mn)
def chainB (a : Sh) : Int → List Sh → Bool
  | _, [] => true
  | last, s :: r => okAt a last s && chainB a s.ix r
def alikeB : List Sh → Bool
  | [] => false
  | a :: r => headB a && chainB a 0 (a :: r)
end Go.Proofs.Ytillfbohengpaaa
end
section
set_option linter.unusedVariables false
set_option linter.unusedSimpArgs false
namespace Go.Proofs.Ytillfbohengpaaa
open Go.RowKit Gf Go.Sort
theorem share_new (w : World) (v0 v1 v2 v3 v4 : Value) (T : TypeId) : let W := w.alloc (.cells #[v0, v1, v2, v3, v4] T)
    W.cell? ⟨w.heap.size, 0, none⟩ = some v0 ∧ W.cell? ⟨w.heap.size, 1, none⟩ = some v1 ∧ W.cell? ⟨w.heap.size, 2, none⟩ = some v2 ∧ W.cell? ⟨w.heap.size, 3, none⟩ = some v3 ∧ W.cell? ⟨w.heap.size, 4, none⟩ = some v4 ∧ Below w.heap.size w W ∧ w.heap.size < W.heap.size := by
  refine ⟨?_, ?_, ?_, ?_, ?_, below_alloc1 _ _, by simp⟩ <;> (rw [cell_new _ _ _ _ _ _ rfl]; rfl)
theorem chain_not (a s : Sh) (last : Int) (l rest : List Sh) (h : chainB a 0 l = chainB a last (s :: rest)) (hk : okAt a last s = false) : chainB a 0 l = false := by
  rw [h]; simp [chainB, hk]
theorem chain_step (a s : Sh) (last : Int) (l rest : List Sh) (h : chainB a 0 l = chainB a last (s :: rest)) (hk : okAt a last s = true) : chainB a 0 l = chainB a s.ix rest := by
  rw [h]; simp [chainB, hk]
set_option maxRecDepth 100000 in
set_option maxHeartbeats 2000000 in
theorem alike_nil (A : Option Addr) (c : Nat) (w : World) :
    Calls Try.prog 46 #[.slice A 0 c] w fun e w' => e = .returned (.bool false) ∧ Below w.heap.size w w' := by
  go_enter Try.func46, Try.ntmps46
  go_wp2_with fail
  go_quiet (fail)
  go_wp2_with fail
  go_ret
  exact ⟨rfl, bdrewN (Below.refl _ _) _⟩
set_option maxRecDepth 100000 in
set_option maxHeartbeats 2000000 in
theorem alike_u (A : Option Addr) (c n : Nat) (a : Sh) (r : List Sh) (w : World) (h : RS w A n (a :: r)) :
    Calls Try.prog 46 #[.slice A n c] w fun e w' => e = .returned (.bool (headB a && chainB a 0 (a :: r))) ∧ Below w.heap.size w w' := by
  have hn0 : 0 < n := by have := h.1; simp at this; omega
  obtain ⟨b, o, rfl, hb, hc⟩ := h.at 0 hn0
  simp only [List.getElem_cons_zero, Nat.zero_mul, Nat.add_zero] at hc
  obtain ⟨c0, c1, c2, c3, Ad, nd, cd, c4, hda⟩ := hc
  have hz : ((n : Int) == 0) = false := by rw [beq_eq_false_iff_ne]; omega
  have hni : (0 : Int) < (n : Int) := by omega
  by_cases h1 : 1 ≤ a.th
  case neg =>
    have hh : headB a = false := by simp [headB, h1]
    rw [hh]
    have d1 : a.th < 1 := by omega
    go_enter Try.func46, Try.ntmps46
    go_wp2_with fail
    go_quiet (fail)
    go_wp2_with fail
    go_ret
    exact ⟨rfl, bdrewN (Below.refl _ _) _⟩
  have d1 : decide (a.th < 1) = false := decide_eq_false (by omega)
  by_cases h2 : a.th ≤ a.mn
  case neg =>
    have hh : headB a = false := by simp [headB, h2]
    rw [hh]
    have d2 : a.mn < a.th := by omega
    go_enter Try.func46, Try.ntmps46
    go_wp2_with fail
    go_quiet (fail)
    go_wp2_with fail
    go_ret
    exact ⟨rfl, bdrewN (Below.refl _ _) _⟩
  have d2 : decide (a.mn < a.th) = false := decide_eq_false (by omega)
  by_cases h3 : a.mn ≤ 8
  case neg =>
    have hh : headB a = false := by simp [headB, h3]
    rw [hh]
    have d3 : 8 < a.mn := by omega
    go_enter Try.func46, Try.ntmps46
    go_wp2_with fail
    go_quiet (fail)
    go_wp2_with fail
    go_ret
    exact ⟨rfl, bdrewN (Below.refl _ _) _⟩
  have d3 : decide (8 < a.mn) = false := decide_eq_false (by omega)
  by_cases h4 : nd ≤ 64
  case neg =>
    have hh : headB a = false := by simp [headB, hda.1, h4]
    rw [hh]
    have d4 : (64 : Int) < (nd : Int) := by omega
    go_enter Try.func46, Try.ntmps46
    go_wp2_with fail
    go_quiet (fail)
    go_wp2_with fail
    go_ret
    exact ⟨rfl, bdrewN (Below.refl _ _) _⟩
  have d4 : decide ((64 : Int) < (nd : Int)) = false := decide_eq_false (by omega)
  have hh : headB a = true := by simp [headB, h1, h2, h3, hda.1, h4]
  rw [hh, Bool.true_and]
  go_enter Try.func46, Try.ntmps46
  go_wp2_with fail
  go_quiet (fail)
  go_wp2_with fail
  clear d1 d2 d3 d4 h1 h2 h3 h4 hh
  go_loopw [3, 5, 44] (fun sl _ si wr => ∃ (k : Nat) (last : Int), k ≤ n ∧ si = .int .i64 k ∧ sl = .int .i64 last ∧ Below w.heap.size w wr ∧ Hid (chainB a 0 (a :: r) = chainB a last ((a :: r).drop k))) (fun _ _ si _ => n - (intOf si).toNat)
  case atStart => exact ⟨0, 0, by omega, rfl, rfl, bdrewN (Below.refl _ _) _, rfl⟩
  case round =>
    obtain ⟨k, last, hk, rfl, rfl, hB, HC⟩ := hrel
    by_cases hlt : k < n
    · obtain ⟨b', o', he, hb', hc'⟩ := (h.below hB).at k hlt
      obtain ⟨rfl, rfl⟩ : b' = b ∧ o' = o := by injection he with he; injection he with e1 e2; exact ⟨e1.symm, e2.symm⟩
      clear he
      generalize hs : (a :: r)[k]'(by rw [h.1]; exact hlt) = s at hc'
      have HS := Lib.hid hs; clear hs
      obtain ⟨e0, e1, e2, e3, As, ns, cs, e4, hds⟩ := hc'
      have hlt2 : (k : Int) < (n : Int) := by omega
      have hk63 : (k : Int) + 1 ≤ 9223372036854775807 := by have := h.2.1; omega
      have hw : wrap64 ((k : Int) + 1) = (k : Int) + 1 := by unfold wrap64; omega
      go_wp2_with fail
      obtain ⟨f0, f1, f2, f3, f4, hbn, hlt1⟩ := share_new wr (.int .i64 s.ep) (.int .i64 s.ix) (.int .i64 s.th) (.int .i64 s.mn) (.slice As ns cs) 52
      have hbr := Nat.lt_of_lt_of_le hb hB.size
      have hBb := bthen hB hbn
      generalize hW1 : wr.alloc _ = W1 at *
      clear hW1
      have hB1 : Below w.heap.size w W1 := hBb
      generalize wr.heap.size = gn at *
      replace c2 := (hB1.cell (p := ⟨b', o' + 2, none⟩) hb).trans c2
      replace c3 := (hB1.cell (p := ⟨b', o' + 3, none⟩) hb).trans c3
      replace c4 := (hB1.cell (p := ⟨b', o' + 4, none⟩) hb).trans c4
      have hcons : (a :: r).drop k = s :: (a :: r).drop (k + 1) := by rw [← HS.out]; exact List.drop_eq_getElem_cons (by rw [h.1]; exact hlt)
      replace HC : Hid (chainB a 0 (a :: r) = chainB a last (s :: (a :: r).drop (k + 1))) := by rw [← hcons]; exact HC
      clear hcons e0 e1 e2 e3 e4 c0 c1 hbn hBb hB
      by_cases q1 : s.th = a.th
      case neg =>
        have hok : okAt a last s = false := by simp [okAt, q1]
        have d : (s.th == a.th) = false := by simp [q1]
        have d' : (s.th != a.th) = true := by simp [q1]
        clear q1
        go_wp2_with fail
        go_quiet (fail)
        go_wp2_with fail
        go_ret
        exact ⟨by rw [chain_not _ _ _ _ _ HC.out hok]; rfl, bdrewN hB1 _⟩
      rw [q1] at f2
      by_cases q2 : s.mn = a.mn
      case neg =>
        have hok : okAt a last s = false := by simp [okAt, q2]
        have d : (s.mn == a.mn) = false := by simp [q2]
        have d' : (s.mn != a.mn) = true := by simp [q2]
        clear q2
        go_wp2_with fail
        go_quiet (fail)
        go_wp2_with fail
        go_ret
        exact ⟨by rw [chain_not _ _ _ _ _ HC.out hok]; rfl, bdrewN hB1 _⟩
      rw [q2] at f3
      by_cases q3 : ns = nd
      case neg =>
        have hok : okAt a last s = false := by simp [okAt, hds.1, hda.1, q3]
        have d : ((ns : Int) == (nd : Int)) = false := by rw [beq_eq_false_iff_ne]; omega
        have d' : ((ns : Int) != (nd : Int)) = true := by rw [bne, d]; rfl
        clear q3
        go_wp2_with fail
        go_quiet (fail)
        go_wp2_with fail
        go_ret
        exact ⟨by rw [chain_not _ _ _ _ _ HC.out hok]; rfl, bdrewN hB1 _⟩
      subst q3
      by_cases q4 : last < s.ix
      case neg =>
        have hok : okAt a last s = false := by simp [okAt, q4]
        have d : s.ix ≤ last := by omega
        go_wp2_with fail
        go_quiet (fail)
        go_wp2_with fail
        go_ret
        exact ⟨by rw [chain_not _ _ _ _ _ HC.out hok]; rfl, bdrewN hB1 _⟩
      have d4 : decide (s.ix ≤ last) = false := decide_eq_false (by omega)
      by_cases q5 : s.ix ≤ a.mn
      case neg =>
        have hok : okAt a last s = false := by simp [okAt, q2, q5]
        have d : a.mn < s.ix := by omega
        go_wp2_with fail
        go_quiet (fail)
        go_wp2_with fail
        go_ret
        exact ⟨by rw [chain_not _ _ _ _ _ HC.out hok]; rfl, bdrewN hB1 _⟩
      have d5 : decide (a.mn < s.ix) = false := decide_eq_false (by omega)
      have hok : okAt a last s = true := by simp [okAt, q1, q2, q4, q5, hds.1, hda.1]
      go_wp2_with fail
      go_quiet (fail)
      go_wp2_with fail
      exact ⟨⟨k + 1, s.ix, by omega, by go_num, rfl, bdrewN hB1 _, chain_step _ _ _ _ _ HC.out hok⟩, by simp [intOf]; omega⟩
    · obtain rfl : k = n := by omega
      go_wp2_with fail
      go_ret
      refine ⟨?_, hB⟩
      rw [HC.out, List.drop_eq_nil_of_le (by rw [h.1]; exact Nat.le_refl _)]
      rfl
end Go.Proofs.Ytillfbohengpaaa
end
section
set_option linter.unusedVariables false
set_option linter.unusedSimpArgs false
namespace Go.Proofs.Ytillfbohengpaaa
open Go.RowKit Gf Go.Sort
theorem alike_any {A : Option Addr} {c n : Nat} {l : List Sh} {w : World} (h : RS w A n l) :
    Calls Try.prog 46 #[.slice A n c] w fun e w' => e = .returned (.bool (alikeB l)) ∧ Below w.heap.size w w' := by
  cases l with
  | nil =>
    obtain rfl : n = 0 := by have := h.1; simpa using this.symm
    exact alike_nil A c w
  | cons a r => exact alike_u A c n a r w h
def epOk (a s : Sh) : Bool := decide (s.ep = a.ep) && decide (0 ≤ s.ep) && decide (s.ep ≤ 1048576)
def epsB (a : Sh) (l : List Sh) : Bool := l.all (epOk a)
def epR (b : Bool) : Int := if b then 0 else 81
def checkR : List Sh → Int
  | [] => 80
  | a :: r => if alikeB (a :: r) then epR (epsB a (a :: r)) else 80
theorem checkR_not (l : List Sh) (h : alikeB l = false) : checkR l = 80 := by
  cases l with
  | nil => rfl
  | cons a r => simp [checkR, h]
theorem all_not (a s : Sh) (l rest : List Sh) (h : epsB a l = epsB a (s :: rest)) (hk : epOk a s = false) : epsB a l = false := by
  rw [h]; simp [epsB, hk]
theorem all_step (a s : Sh) (l rest : List Sh) (h : epsB a l = epsB a (s :: rest)) (hk : epOk a s = true) : epsB a l = epsB a rest := by
  rw [h]; simp [epsB, hk]
set_option maxRecDepth 100000 in
set_option maxHeartbeats 2000000 in
theorem check_u {A : Option Addr} {c n : Nat} {l : List Sh} {w : World} (h : RS w A n l) :
    Calls Try.prog 27 #[.slice A n c] w fun e w' => e = .returned (.int .i64 (checkR l)) ∧ Below w.heap.size w w' := by
  cases hal : alikeB l with
  | false =>
    rw [checkR_not l hal]
    go_enter Try.func27, Try.ntmps27
    go_wp2_with fail
    refine (alike_any h).mono ?_
    rintro e w1 ⟨rfl, hb1⟩
    rw [hal]
    go_wp2_with fail
    go_ret
    exact ⟨rfl, hb1⟩
  | true =>
    cases l with
    | nil => cases hal
    | cons a r =>
      have hn0 : 0 < n := by have := h.1; simp at this; omega
      have hni : (0 : Int) < (n : Int) := by omega
      obtain ⟨b, o, rfl, hb, hc⟩ := h.at 0 hn0
      simp only [List.getElem_cons_zero, Nat.zero_mul, Nat.add_zero] at hc
      have c0 := hc.1
      clear hc
      have hR : checkR (a :: r) = epR (epsB a (a :: r)) := by simp [checkR, hal]
      rw [hR]
      clear hR
      go_enter Try.func27, Try.ntmps27
      go_wp2_with fail
      refine (alike_any h).mono ?_
      rintro e w1 ⟨rfl, hb1⟩
      rw [hal]
      clear hal
      go_wp2_with fail
      go_loopw [4, 10] (fun _ si wr => ∃ (k : Nat), k ≤ n ∧ si = .int .i64 k ∧ Below w.heap.size w wr ∧ Hid (epsB a (a :: r) = epsB a ((a :: r).drop k))) (fun _ si _ => n - (intOf si).toNat)
      case atStart => exact ⟨0, by omega, rfl, hb1, rfl⟩
      case round =>
        obtain ⟨k, hk, rfl, hB, HC⟩ := hrel
        clear hb1
        by_cases hlt : k < n
        · obtain ⟨b', o', he, hb', hc'⟩ := (h.below hB).at k hlt
          obtain ⟨rfl, rfl⟩ : b' = b ∧ o' = o := by injection he with he; injection he with e1 e2; exact ⟨e1.symm, e2.symm⟩
          clear he
          generalize hs : (a :: r)[k]'(by rw [h.1]; exact hlt) = s at hc'
          have HS := Lib.hid hs; clear hs
          obtain ⟨e0, e1, e2, e3, As, ns, cs, e4, hds⟩ := hc'
          have hlt2 : (k : Int) < (n : Int) := by omega
          have hk63 : (k : Int) + 1 ≤ 9223372036854775807 := by have := h.2.1; omega
          have hw : wrap64 ((k : Int) + 1) = (k : Int) + 1 := by unfold wrap64; omega
          go_wp2_with fail
          obtain ⟨f0, f1, f2, f3, f4, hbn, hlt1⟩ := share_new wr (.int .i64 s.ep) (.int .i64 s.ix) (.int .i64 s.th) (.int .i64 s.mn) (.slice As ns cs) 52
          have hB1 := bthen hB hbn
          generalize hW1 : wr.alloc _ = W1 at *
          clear hW1
          generalize wr.heap.size = gn at *
          have c1 := (hB1.cell (p := ⟨b', o', none⟩) hb).trans c0
          have hcons : (a :: r).drop k = s :: (a :: r).drop (k + 1) := by rw [← HS.out]; exact List.drop_eq_getElem_cons (by rw [h.1]; exact hlt)
          replace HC : Hid (epsB a (a :: r) = epsB a (s :: (a :: r).drop (k + 1))) := by rw [← hcons]; exact HC
          clear hcons e0 e1 e2 e3 e4 hbn hB
          by_cases q1 : s.ep = a.ep
          case neg =>
            have hok : epOk a s = false := by simp [epOk, q1]
            have d : (s.ep == a.ep) = false := by simp [q1]
            have d' : (s.ep != a.ep) = true := by simp [q1]
            clear q1
            go_wp2_with fail
            go_quiet (fail)
            go_wp2_with fail
            go_ret
            exact ⟨by rw [all_not _ _ _ _ HC.out hok]; rfl, bdrewN hB1 _⟩
          rw [q1] at f0
          by_cases q2 : 0 ≤ a.ep
          case neg =>
            have hok : epOk a s = false := by simp [epOk, q1, q2]
            have d : a.ep < 0 := by omega
            go_wp2_with fail
            go_quiet (fail)
            go_wp2_with fail
            go_ret
            exact ⟨by rw [all_not _ _ _ _ HC.out hok]; rfl, bdrewN hB1 _⟩
          have d2 : decide (a.ep < 0) = false := decide_eq_false (by omega)
          by_cases q3 : a.ep ≤ 1048576
          case neg =>
            have hok : epOk a s = false := by simp [epOk, q1, q3]
            have d : 1048576 < a.ep := by omega
            go_wp2_with fail
            go_quiet (fail)
            go_wp2_with fail
            go_ret
            exact ⟨by rw [all_not _ _ _ _ HC.out hok]; rfl, bdrewN hB1 _⟩
          have d3 : decide (1048576 < a.ep) = false := decide_eq_false (by omega)
          have hok : epOk a s = true := by simp [epOk, q1, q2, q3]
          go_wp2_with fail
          go_quiet (fail)
          go_wp2_with fail
          exact ⟨⟨k + 1, by omega, by go_num, bdrewN hB1 _, all_step _ _ _ _ HC.out hok⟩, by simp [intOf]; omega⟩
        · obtain rfl : k = n := by omega
          go_wp2_with fail
          go_ret
          refine ⟨?_, hB⟩
          rw [HC.out, List.drop_eq_nil_of_le (by rw [h.1]; exact Nat.le_refl _)]
          rfl
end Go.Proofs.Ytillfbohengpaaa
end
section
set_option linter.unusedVariables false
set_option linter.unusedSimpArgs false
namespace Go.Proofs.Ytillfbohengpaaa
open Go.RowKit Gf Go.Proofs.YtillfbohengpaaaW.PrintWords PA
def tI (x : G) : Int := (x.toNat : Int)
def gI (x : Int) : G := BitVec.ofInt 8 x
theorem gI_tI (x : G) : gI (tI x) = x := by simp [gI, tI]
theorem tI_gI (x : Int) (h0 : 0 ≤ x) (h1 : x < 256) : tI (gI x) = x := by
  obtain ⟨n, rfl⟩ := Int.eq_ofNat_of_zero_le h0
  simp only [tI, gI, BitVec.ofInt_natCast, BitVec.toNat_ofNat]
  omega
theorem tI_range (x : G) : 0 ≤ tI x ∧ tI x < 256 := by have := x.isLt; unfold tI; omega
def okB (x : Int) : Bool := decide (0 ≤ x) && decide (x < 256)
theorem okB_tI (x : G) : okB (tI x) = true := by have := tI_range x; simp [okB, this.1, this.2]
def isB (l : List Int) : Bool := l.all okB
theorem isB_tI (l : List G) : isB (l.map tI) = true := by simp [isB, okB_tI]
theorem gI_map (l : List G) : (l.map tI).map gI = l := by simp [List.map_map, Function.comp_def, gI_tI]
theorem of_isB {l : List Int} (h : isB l = true) : (l.map gI).map tI = l := by
  rw [List.map_map]
  refine (List.map_congr_left fun x hx => ?_).trans (List.map_id l)
  have := List.all_eq_true.1 h x hx
  simp only [okB, Bool.and_eq_true, decide_eq_true_eq] at this
  exact tI_gI x this.1 this.2
theorem ex_isB {l : List Int} (h : isB l = true) : ∃ m : List G, l = m.map tI := ⟨_, (of_isB h).symm⟩
theorem spot_of {w : World} {ad : Addr} {v : Value} (h : w.cell? ad = some v) : ad = ⟨ad.block, ad.off, none⟩ := by
  obtain ⟨b, o, s⟩ := ad
  cases s with
  | none => rfl
  | some k =>
    unfold World.cell? at h
    cases hb : w.heap[b]? with
    | none => rw [hb] at h; cases h
    | some ob => rw [hb] at h; cases ob <;> simp at h
theorem C_of_rl {w : World} {A : Option Addr} {n : Nat} {l : List G} (h : RL gv w A n l) : Kd.C (Kd.int .u8) w A n (l.map tI) := by
  refine ⟨by rw [List.length_map]; exact h.1, h.2.1, fun hn => ?_⟩
  obtain ⟨b, o, rfl, hb, _⟩ := h.at 0 hn
  refine ⟨_, rfl, fun j p hj => ⟨[.int .u8 p], rfl, rfl, fun i u hu => ?_⟩⟩
  rw [List.getElem?_map, Option.map_eq_some_iff] at hj
  obtain ⟨x, hx, rfl⟩ := hj
  have hl := (List.getElem?_eq_some_iff.1 hx).1
  obtain ⟨b', o', e, _, hc⟩ := h.2.2 j hl
  injection e with e; injection e with e1 e2
  subst e1 e2
  cases i with
  | zero =>
    have hu' : Value.int .u8 (tI x) = u := by simpa using hu
    subst hu'
    show w.cell? (Addr.add ⟨b, o, none⟩ (j * 1 + 0)) = _
    rw [add_at, Nat.mul_one, Nat.add_zero, hc, (List.getElem?_eq_some_iff.1 hx).2]; rfl
  | succ i => simp at hu
theorem rl_of_C {w : World} {A : Option Addr} {n : Nat} {l : List G} (h : Kd.C (Kd.int .u8) w A n (l.map tI)) : RL gv w A n l := by
  have hl : l.length = n := by have := h.1; rwa [List.length_map] at this
  refine ⟨hl, h.2.1, fun j hj => ?_⟩
  obtain ⟨ad, rfl, hc⟩ := h.2.2 (by omega)
  have hl0 : 0 < l.length := by omega
  obtain ⟨c0, _, rfl, h0⟩ := hc 0 (tI (l[0]'hl0)) (by simp [hl0])
  have hs := h0 0 _ rfl
  rw [Nat.zero_mul, Nat.add_zero] at hs
  have hsp := spot_of (show w.cell? (ad.add 0) = _ from hs)
  simp only [Addr.add, if_true] at hsp hs
  obtain ⟨c1, _, rfl, h1⟩ := hc j (tI l[j]) (by simp [hj])
  have h2 : w.cell? (ad.add (j * 1 + 0)) = _ := h1 0 _ rfl
  rw [Nat.mul_one, Nat.add_zero, hsp, add_at] at h2
  refine ⟨ad.block, ad.off, by rw [← hsp], World.block_lt_of_cell? w ad hs, h2⟩
theorem R_of_own {E : TypeId} {w : World} {base n : Nat} {v : Value} {l : List G} {ok : Nat → Prop} (h : OwnL gv E w base v n l) (hok : ∀ k, v.ownBlock = some k → ok k) : Kd.R (Kd.int .u8) E w base ok v (l.map tI) := by
  refine ⟨hok, l.map gv, ?_, ?_⟩
  · show w.ownsRow base E 1 v (l.map tI).length (l.map gv)
    rw [List.length_map, h.length]; exact h
  · refine ⟨by simp [Kd.int, Kd.scalar], fun j p hj => ?_⟩
    rw [List.getElem?_map, Option.map_eq_some_iff] at hj
    obtain ⟨x, hx, rfl⟩ := hj
    show ((l.map gv).drop (j * 1)).take 1 = [.int .u8 (tI x)]
    rw [Nat.mul_one]
    obtain ⟨hl, hx⟩ := List.getElem?_eq_some_iff.1 hx
    rw [List.drop_eq_getElem_cons (by simpa using hl)]
    simp [hx]; rfl
theorem own_of_R {E : TypeId} {w : World} {base : Nat} {v : Value} {l : List G} {ok : Nat → Prop} (h : Kd.R (Kd.int .u8) E w base ok v (l.map tI)) : OwnL gv E w base v l.length l := by
  obtain ⟨_, inner, ho, hr⟩ := h
  rw [List.length_map] at ho
  suffices hi : inner = l.map gv by rw [hi] at ho; exact ho
  have hlen : inner.length = l.length := by have := hr.1; simpa [Kd.int, Kd.scalar] using this
  apply List.ext_getElem (by simpa using hlen)
  intro j h1 h2
  have hj : j < l.length := by omega
  have := hr.2 j (tI l[j]) (by simp [hj])
  have h3 : (inner.drop (j * 1)).take 1 = [.int .u8 (tI l[j])] := this
  rw [Nat.mul_one, List.drop_eq_getElem_cons h1] at h3
  simp only [List.take_succ_cons, List.take_zero, List.cons.injEq, and_true] at h3
  rw [h3]; simp; rfl
def sI (s : Sh) : S52 := ⟨s.ep, s.ix, s.th, s.mn, s.da.map tI⟩
def shG (s : S52) : Sh := ⟨s.f0, s.f1, s.f2, s.f3, s.f4.map gI⟩
def okS (l : List S52) : Bool := l.all fun s => isB s.f4
theorem shG_sI (s : Sh) : shG (sI s) = s := by cases s; simp [shG, sI, List.map_map, Function.comp_def, gI_tI]
theorem okS_sI (l : List Sh) : okS (l.map sI) = true := by simp [okS, sI, isB_tI]
theorem shG_map (l : List Sh) : (l.map sI).map shG = l := by simp [List.map_map, Function.comp_def, shG_sI]
theorem of_okS {l : List S52} (h : okS l = true) : (l.map shG).map sI = l := by
  rw [List.map_map]
  refine (List.map_congr_left fun x hx => ?_).trans (List.map_id l)
  have := List.all_eq_true.1 h x hx
  cases x
  simp only [Function.comp, shG, sI, id]
  rw [of_isB this]
theorem ex_okS {l : List S52} (h : okS l = true) : ∃ m : List Sh, l = m.map sI := ⟨_, (of_okS h).symm⟩
theorem rs_of_C {w : World} {A : Option Addr} {n : Nat} {l : List Sh} (h : Kd.C k52 w A n (l.map sI)) : RS w A n l := by
  have hl : l.length = n := by have := h.1; rwa [List.length_map] at this
  refine ⟨hl, h.2.1, fun j hj => ?_⟩
  have key : ∀ i (hi : i < l.length), ∃ ad A4 c4, A = some ad ∧ w.cell? (ad.add (i * 5)) = some (.int .i64 l[i].ep) ∧ w.cell? ⟨(ad.add (i * 5)).block, (ad.add (i * 5)).off + 1, none⟩ = some (.int .i64 l[i].ix) ∧ w.cell? ⟨(ad.add (i * 5)).block, (ad.add (i * 5)).off + 2, none⟩ = some (.int .i64 l[i].th) ∧ w.cell? ⟨(ad.add (i * 5)).block, (ad.add (i * 5)).off + 3, none⟩ = some (.int .i64 l[i].mn) ∧ w.cell? ⟨(ad.add (i * 5)).block, (ad.add (i * 5)).off + 4, none⟩ = some (.slice A4 (l[i].da.map tI).length c4) ∧ (l[i].da.map tI).length ≤ c4 ∧ (Kd.int .u8).C w A4 (l[i].da.map tI).length (l[i].da.map tI) := by
    intro i hi
    have := at_T52 h (i : Int) (by omega) (by omega)
    have e : rd_T52 (l.map sI) (i : Int) = sI l[i] := by simp [rd_T52, hi]
    rw [e, Int.toNat_natCast] at this
    exact this
  obtain ⟨ad, _, _, rfl, h0, _⟩ := key 0 (by omega)
  rw [Nat.zero_mul] at h0
  have hsp := spot_of h0
  simp only [Addr.add, if_true] at hsp h0
  obtain ⟨ad', A4, c4, e, g0, g1, g2, g3, g4, g5, g6⟩ := key j hj
  injection e with e; subst e
  rw [hsp, add_at] at g0 g1 g2 g3 g4
  refine ⟨ad.block, ad.off, by rw [← hsp], World.block_lt_of_cell? w ad h0, g0, g1, g2, g3, A4, _, c4, g4, ?_⟩
  have := rl_of_C g6
  exact this
end Go.Proofs.Ytillfbohengpaaa
end
section
namespace Go.Proofs.Ytillfbohengpaaa.PA
open Go.RowKit Go.Proofs.YtillfbohengpaaaW.PrintWords Go.Proofs.YtillfbohengpaaaW.PrintLast Go.Proofs.YtillfbohengpaaaW.PrintMore
attribute [local go_sem] max2_int min2_int max_two min_two max_three min_three max_four min_four   -- for this text's walks alone
set_option linter.unusedVariables false
set_option linter.unusedSimpArgs false
def testamurref07_Mul.f (a0 a1 : Int) : Option Int := if okB a0 = true ∧ okB a1 = true then some (tI (Gf.mul (gI a0) (gI a1))) else none
theorem testamurref07_Mul.calls (a0 a1 : Int) (r : Int) (w : World) (h : testamurref07_Mul.f a0 a1 = some r) :
    Calls Try.prog 19 #[.int .u8 a0, .int .u8 a1] w fun e w' => e = .returned (.int .u8 r) ∧ Below w.heap.size w w' := by
  unfold testamurref07_Mul.f at h
  split at h
  case isFalse => cases h
  rename_i ho
  obtain ⟨h1, h2⟩ := ho
  simp only [okB, Bool.and_eq_true, decide_eq_true_eq] at h1 h2
  injection h with h
  subst h
  have e1 := tI_gI a0 h1.1 h1.2
  have e2 := tI_gI a1 h2.1 h2.2
  generalize gI a0 = x at *
  generalize gI a1 = y at *
  subst e1 e2
  exact rmul_u x y w
end Go.Proofs.Ytillfbohengpaaa.PA
end
section
namespace Go.Proofs.Ytillfbohengpaaa.PA
open Go.RowKit Go.Proofs.YtillfbohengpaaaW.PrintWords Go.Proofs.YtillfbohengpaaaW.PrintLast Go.Proofs.YtillfbohengpaaaW.PrintMore
attribute [local go_sem] max2_int min2_int max_two min_two max_three min_three max_four min_four   -- for this text's walks alone
set_option linter.unusedVariables false
set_option linter.unusedSimpArgs false
def testamurref07_Eval.l0 : Nat → List Int → Int → Int → Int → Int → Option (Int)
  | 0, _, _, _, _, _ => none
  | k + 1, x0, x1, x5, x6, x7 => if x7 < (x0.length : Int) then (if 0 ≤ x7 then ((testamurref07_Mul.f (rd x0 x7) x6).bind fun t103 => ((testamurref07_Mul.f x6 x1).bind fun t104 => (testamurref07_Eval.l0 k x0 x1 (Go.bits .xor .u8 x5 t103) t104 (wrap64 (x7 + 1))))) else (none)) else (some x5)
def testamurref07_Eval.f (k : Nat) (l0 : List Int) (a1 : Int) : Option (Int) := testamurref07_Eval.l0 k l0 a1 0 1 0
theorem testamurref07_Eval.mono_l : ∀ k, (∀ y0 y1 y2 y3 y4, LeO (testamurref07_Eval.l0 k y0 y1 y2 y3 y4) (testamurref07_Eval.l0 (k + 1) y0 y1 y2 y3 y4))
  | 0 => fun _ _ _ _ _ r h => by simp [testamurref07_Eval.l0] at h
  | k + 1 => by
    have ih0 := testamurref07_Eval.mono_l k
    · intro y0 y1 y2 y3 y4
      unfold testamurref07_Eval.l0
      repeat' first
      | (with_reducible exact ih0 _ _ _ _ _)
      | (with_reducible exact LeO.refl _)
      | (with_reducible exact LeO.none _)
      | (with_reducible refine LeO.ite ?_ ?_)
      | (with_reducible refine LeO.bind ?_ (fun _ => ?_))
      | exact ih0 _ _ _ _ _
      | exact LeO.none _
      | refine LeO.ite ?_ ?_
      | refine LeO.bind ?_ (fun _ => ?_)
theorem testamurref07_Eval.mono : ∀ a0 a1 k, LeO (testamurref07_Eval.f k a0 a1) (testamurref07_Eval.f (k + 1) a0 a1) := by
  intro a0 a1 k
  have ih0 := testamurref07_Eval.mono_l k
  unfold testamurref07_Eval.f
  repeat' first
      | (with_reducible exact ih0 _ _ _ _ _)
      | (with_reducible exact LeO.refl _)
      | (with_reducible exact LeO.none _)
      | (with_reducible refine LeO.ite ?_ ?_)
      | (with_reducible refine LeO.bind ?_ (fun _ => ?_))
      | exact ih0 _ _ _ _ _
      | exact LeO.none _
      | refine LeO.ite ?_ ?_
      | refine LeO.bind ?_ (fun _ => ?_)
set_option maxHeartbeats 8000000 in
set_option maxRecDepth 100000 in
theorem testamurref07_Eval.calls (k : Nat) (A0 : Option Addr) (c0 : Nat) (l0 : List Int) (a1 : Int) (r : Int) (w : World) (hr0 : Kd.C (Kd.int .u8) w A0 l0.length l0) (hc0 : l0.length ≤ c0) (h : testamurref07_Eval.f k l0 a1 = some r) :
    Calls Try.prog 45 #[.slice A0 l0.length c0, .int .u8 a1] w fun e w' => e = .returned (.int .u8 r) ∧ Below w.heap.size w w' := by
  have HR0 := Aside0.mk hr0
  have HC0 := Aside0.mk hc0
  clear hr0 hc0
  have HB := Aside0.mk (Below.refl w.heap.size w)
  have H : (testamurref07_Eval.l0 k l0 a1 0 1 0) = some r := h
  clear h
  have H' := Aside0.mk H
  clear H
  go_enter Try.func45, Try.ntmps45
  go_wp2
  go_loopg [5, 6, 7] k (fun kq v5 v6 v7 w' => ∃ (x5_1 : Int) (x6_1 : Int) (x7_1 : Int), v5 = .int .u8 x5_1 ∧ v6 = .int .u8 x6_1 ∧ v7 = .int .i64 x7_1 ∧ Aside0 (testamurref07_Eval.l0 kq l0 a1 x5_1 x6_1 x7_1 = some r) ∧ Aside0 (kq ≤ k) ∧ Aside0 (Below w.heap.size w w'))
  case atStart => exact ⟨(0), (1), (0), (by first | rfl | (simp; done) | (simp [*]; done)), (by first | rfl | (simp; done) | (simp [*]; done)), (by first | rfl | (simp; done) | (simp [*]; done)), H', ⟨Nat.le_refl _⟩, ⟨by repeat (first | (with_reducible first | exact HB.out | apply below_alloc | apply pw_below_drewN | apply below_drew1) | exact HB.out)⟩⟩
  case round =>
    clear H'
    try clear p2
    obtain ⟨x5_1, x6_1, x7_1, rfl, rfl, rfl, HA, HK1, HB⟩ := hrel
    cases gk with
    | zero => exact absurd HA.out (by simp [testamurref07_Eval.l0])
    | succ k1 =>
      have H := HA.out
      clear HA
      simp only [testamurref07_Eval.l0] at H
      by_cases c3 : x7_1 < (l0.length : Int)
      · rw [if_pos c3] at H
        have c3b0 : decide (x7_1 < (l0.length : Int)) = true := decide_eq_true c3
        clear c3
        by_cases c4 : 0 ≤ x7_1
        · rw [if_pos c4] at H
          have c4b0 : decide (0 ≤ x7_1) = true := decide_eq_true c4
          clear c4
          replace H := Option.bind_eq_some_iff.mp H
          obtain ⟨t103, A50, H⟩ := H
          replace H : ((testamurref07_Mul.f x6_1 a1).bind fun t104 => (testamurref07_Eval.l0 k1 l0 a1 (Go.bits .xor .u8 x5_1 t103) t104 (wrap64 (x7_1 + 1)))) = some r := H
          have A5 := Aside0.mk A50
          clear A50
          replace H := Option.bind_eq_some_iff.mp H
          obtain ⟨t104, A60, H⟩ := H
          replace H : (testamurref07_Eval.l0 k1 l0 a1 (Go.bits .xor .u8 x5_1 t103) t104 (wrap64 (x7_1 + 1))) = some r := H
          have A6 := Aside0.mk A60
          clear A60
          have H' := Aside0.mk H
          clear H
          have p102 : 0 ≤ (x7_1 : Int) := of_decide_eq_true (by first | (with_reducible assumption) | assumption)
          have q102 : x7_1 < (l0.length : Int) := of_decide_eq_true (by first | (with_reducible assumption) | assumption)
          obtain ⟨ad102, e102, hx102_0⟩ := Kd.at_int HR0.out x7_1 p102 q102
          cases e102
          replace hx102_0 := (HB.out.cell (World.block_lt_of_cell? w _ hx102_0)).trans hx102_0
          replace p102 := eq_true p102
          replace q102 := eq_true q102
          go_wp2_with (first | ((with_reducible refine gate_callee (f := 19) rfl ?_); refine goesL_ (some 20) rfl rfl Try.func19 (by kernel_rfl) rfl #[.int .u8 (rd l0 x7_1), .int .u8 x6_1] rfl (by (try simp only [List.map_toArray, List.map_cons, List.map_nil]); first | done | rfl | (simp only [List.length_drop, List.length_take]; rfl)) ?_; (with_reducible refine (testamurref07_Mul.calls (rd l0 x7_1) x6_1 t103 _ A5.out).mono ?_); rintro e w7 ⟨rfl, hb⟩; refine ⟨_, rfl, ?_⟩; have n0_ := Aside0.mk (below_step (by repeat (first | (with_reducible first | exact HB.out | apply below_alloc | apply pw_below_drewN | apply below_drew1) | exact HB.out)) hb); clear HB; have HB := n0_; clear n0_; (try clear hb); (try clear hb2); (try clear hk); (try clear hi)) | ((with_reducible refine gate_callee (f := 19) rfl ?_); refine goesL_ (some 24) rfl rfl Try.func19 (by kernel_rfl) rfl #[.int .u8 x6_1, .int .u8 a1] rfl (by (try simp only [List.map_toArray, List.map_cons, List.map_nil]); first | done | rfl | (simp only [List.length_drop, List.length_take]; rfl)) ?_; (with_reducible refine (testamurref07_Mul.calls x6_1 a1 t104 _ A6.out).mono ?_); rintro e w8 ⟨rfl, hb⟩; refine ⟨_, rfl, ?_⟩; have n0_ := Aside0.mk (below_step (by repeat (first | (with_reducible first | exact HB.out | apply below_alloc | apply pw_below_drewN | apply below_drew1) | exact HB.out)) hb); clear HB; have HB := n0_; clear n0_; (try clear hb); (try clear hb2); (try clear hk); (try clear hi)))
          go_roundg k1
          case measure => have := HK1.out; omega
          case rel => exact ⟨(Go.bits .xor .u8 x5_1 t103), (t104), (wrap64 (x7_1 + 1)), (by first | rfl | (simp; done) | (simp [*]; done)), (by first | rfl | (simp; done) | (simp [*]; done)), (by first | rfl | (simp; done) | (simp [*]; done)), H', ⟨by have := HK1.out; omega⟩, ⟨by repeat (first | (with_reducible first | exact HB.out | apply below_alloc | apply pw_below_drewN | apply below_drew1) | exact HB.out)⟩⟩
        · rw [if_neg c4] at H
          exact absurd H (by simp)
      · rw [if_neg c3] at H
        have c3b0 : decide (x7_1 < (l0.length : Int)) = false := decide_eq_false c3
        clear c3
        obtain rfl := Option.some.inj H
        go_wp2
        go_ret
        exact ⟨by first | rfl | (simp [errW_none, errW_some] <;> rfl) | (simp [*, errW_none, errW_some] <;> rfl), by repeat (first | (with_reducible first | exact HB.out | apply below_alloc | apply pw_below_drewN | apply below_drew1) | exact HB.out)⟩
end Go.Proofs.Ytillfbohengpaaa.PA
end
section
namespace Go.Proofs.Ytillfbohengpaaa.PA
open Go.RowKit Go.Proofs.YtillfbohengpaaaW.PrintWords Go.Proofs.YtillfbohengpaaaW.PrintLast Go.Proofs.YtillfbohengpaaaW.PrintMore
attribute [local go_sem] max2_int min2_int max_two min_two max_three min_three max_four min_four   -- for this text's walks alone
set_option linter.unusedVariables false
set_option linter.unusedSimpArgs false
mutual
def testamurref08_Split.j0 : Nat → List Int → Int → Int → Int → List Int → Bool → Option ((List (S52)) × Int)
  | 0, _, _, _, _, _, _ => none
  | k + 1, x0, x1, x2, x3, x4, x30 => if x30 = true then (some (([] : List (S52)), 80)) else (if x1 < 0 then (testamurref08_Split.j1 k x0 x1 x2 x3 x4 true) else (testamurref08_Split.j1 k x0 x1 x2 x3 x4 (decide (x1 > 1048576))))
def testamurref08_Split.j1 : Nat → List Int → Int → Int → Int → List Int → Bool → Option ((List (S52)) × Int)
  | 0, _, _, _, _, _, _ => none
  | k + 1, x0, x1, x2, x3, x4, x36 => if x36 = true then (some (([] : List (S52)), 81)) else (if (x4.length : Int) = (wrap64 ((x0.length : Int) * (wrap64 (x2 - 1)))) then (testamurref08_Split.l0 k x0 x1 x2 x3 x4 ([] : List (S52)) 1) else (some (([] : List (S52)), 1)))
def testamurref08_Split.l0 : Nat → List Int → Int → Int → Int → List Int → List (S52) → Int → Option ((List (S52)) × Int)
  | 0, _, _, _, _, _, _, _ => none
  | k + 1, x0, x1, x2, x3, x4, x12, x13 => if x13 ≤ x3 then (testamurref08_Split.l1 k x0 x1 x2 x3 x4 x12 x13 0 x1 x13 x2 x3 ([] : List Int)) else (some (x12, 0))
def testamurref08_Split.l1 : Nat → List Int → Int → Int → Int → List Int → List (S52) → Int → Int → Int → Int → Int → Int → List Int → Option ((List (S52)) × Int)
  | 0, _, _, _, _, _, _, _, _, _, _, _, _, _ => none
  | k + 1, x0, x1, x2, x3, x4, x12, x13, x15, x106000, x106001, x106002, x106003, x106004 => if x15 < (x0.length : Int) then (if 0 ≤ x15 then ((some (([rd x0 x15] : List Int) : List Int)).bind fun y107 => (if 0 ≤ (wrap64 (x15 * (wrap64 (x2 - 1)))) then (if (wrap64 (x15 * (wrap64 (x2 - 1)))) ≤ (wrap64 ((wrap64 (x15 + 1)) * (wrap64 (x2 - 1)))) then (if (wrap64 ((wrap64 (x15 + 1)) * (wrap64 (x2 - 1)))) ≤ (x4.length : Int) then (if y107.length + ((x4.take ((wrap64 ((wrap64 (x15 + 1)) * (wrap64 (x2 - 1)))) : Int).toNat).drop ((wrap64 (x15 * (wrap64 (x2 - 1)))) : Int).toNat).length < 140737488355328 then ((testamurref07_Eval.f k (y107 ++ ((x4.take ((wrap64 ((wrap64 (x15 + 1)) * (wrap64 (x2 - 1)))) : Int).toNat).drop ((wrap64 (x15 * (wrap64 (x2 - 1)))) : Int).toNat)) ((x13) % 256)).bind fun t114 => (if x106004.length < 140737488355328 then (testamurref08_Split.l1 k x0 x1 x2 x3 x4 x12 x13 (wrap64 (x15 + 1)) x106000 x106001 x106002 x106003 (x106004 ++ [t114])) else (none))) else (none)) else (none)) else (none)) else (none))) else (none)) else (if x12.length < 2513169434916 then (testamurref08_Split.l0 k x0 x1 x2 x3 x4 (x12 ++ [(⟨x106000, x106001, x106002, x106003, x106004⟩ : S52)]) (wrap64 (x13 + 1))) else (none))
end
def testamurref08_Split.f (k : Nat) (l0 : List Int) (a1 : Int) (a2 : Int) (a3 : Int) (l4 : List Int) : Option ((List (S52)) × Int) := if (l0.length : Int) > 64 then (some (([] : List (S52)), 1)) else (if a2 < 1 then (testamurref08_Split.j0 k l0 a1 a2 a3 l4 true) else (if a2 > a3 then (testamurref08_Split.j0 k l0 a1 a2 a3 l4 true) else (testamurref08_Split.j0 k l0 a1 a2 a3 l4 (decide (a3 > 8)))))
theorem testamurref08_Split.mono_l : ∀ k, (∀ y0 y1 y2 y3 y4 y5, LeO (testamurref08_Split.j0 k y0 y1 y2 y3 y4 y5) (testamurref08_Split.j0 (k + 1) y0 y1 y2 y3 y4 y5)) ∧ (∀ y0 y1 y2 y3 y4 y5, LeO (testamurref08_Split.j1 k y0 y1 y2 y3 y4 y5) (testamurref08_Split.j1 (k + 1) y0 y1 y2 y3 y4 y5)) ∧ (∀ y0 y1 y2 y3 y4 y5 y6, LeO (testamurref08_Split.l0 k y0 y1 y2 y3 y4 y5 y6) (testamurref08_Split.l0 (k + 1) y0 y1 y2 y3 y4 y5 y6)) ∧ (∀ y0 y1 y2 y3 y4 y5 y6 y7 y8 y9 y10 y11 y12, LeO (testamurref08_Split.l1 k y0 y1 y2 y3 y4 y5 y6 y7 y8 y9 y10 y11 y12) (testamurref08_Split.l1 (k + 1) y0 y1 y2 y3 y4 y5 y6 y7 y8 y9 y10 y11 y12))
  | 0 => ⟨fun _ _ _ _ _ _ r h => by simp [testamurref08_Split.j0] at h, fun _ _ _ _ _ _ r h => by simp [testamurref08_Split.j1] at h, fun _ _ _ _ _ _ _ r h => by simp [testamurref08_Split.l0] at h, fun _ _ _ _ _ _ _ _ _ _ _ _ _ r h => by simp [testamurref08_Split.l1] at h⟩
  | k + 1 => by
    obtain ⟨ih0, ih1, ih2, ih3⟩ := testamurref08_Split.mono_l k
    refine ⟨?_, ?_, ?_, ?_⟩
    · intro y0 y1 y2 y3 y4 y5
      unfold testamurref08_Split.j0
      repeat' first
      | (with_reducible exact ih0 _ _ _ _ _ _)
      | (with_reducible exact ih1 _ _ _ _ _ _)
      | (with_reducible exact ih2 _ _ _ _ _ _ _)
      | (with_reducible exact ih3 _ _ _ _ _ _ _ _ _ _ _ _ _)
      | (with_reducible exact testamurref07_Eval.mono _ _ _)
      | (with_reducible exact LeO.refl _)
      | (with_reducible exact LeO.none _)
      | (with_reducible refine LeO.ite ?_ ?_)
      | (with_reducible refine LeO.bind ?_ (fun _ => ?_))
      | exact ih0 _ _ _ _ _ _
      | exact ih1 _ _ _ _ _ _
      | exact ih2 _ _ _ _ _ _ _
      | exact ih3 _ _ _ _ _ _ _ _ _ _ _ _ _
      | exact testamurref07_Eval.mono _ _ _
      | exact LeO.none _
      | refine LeO.ite ?_ ?_
      | refine LeO.bind ?_ (fun _ => ?_)
    · intro y0 y1 y2 y3 y4 y5
      unfold testamurref08_Split.j1
      repeat' first
      | (with_reducible exact ih0 _ _ _ _ _ _)
      | (with_reducible exact ih1 _ _ _ _ _ _)
      | (with_reducible exact ih2 _ _ _ _ _ _ _)
      | (with_reducible exact ih3 _ _ _ _ _ _ _ _ _ _ _ _ _)
      | (with_reducible exact testamurref07_Eval.mono _ _ _)
      | (with_reducible exact LeO.refl _)
      | (with_reducible exact LeO.none _)
      | (with_reducible refine LeO.ite ?_ ?_)
      | (with_reducible refine LeO.bind ?_ (fun _ => ?_))
      | exact ih0 _ _ _ _ _ _
      | exact ih1 _ _ _ _ _ _
      | exact ih2 _ _ _ _ _ _ _
      | exact ih3 _ _ _ _ _ _ _ _ _ _ _ _ _
      | exact testamurref07_Eval.mono _ _ _
      | exact LeO.none _
      | refine LeO.ite ?_ ?_
      | refine LeO.bind ?_ (fun _ => ?_)
    · intro y0 y1 y2 y3 y4 y5 y6
      unfold testamurref08_Split.l0
      repeat' first
      | (with_reducible exact ih0 _ _ _ _ _ _)
      | (with_reducible exact ih1 _ _ _ _ _ _)
      | (with_reducible exact ih2 _ _ _ _ _ _ _)
      | (with_reducible exact ih3 _ _ _ _ _ _ _ _ _ _ _ _ _)
      | (with_reducible exact testamurref07_Eval.mono _ _ _)
      | (with_reducible exact LeO.refl _)
      | (with_reducible exact LeO.none _)
      | (with_reducible refine LeO.ite ?_ ?_)
      | (with_reducible refine LeO.bind ?_ (fun _ => ?_))
      | exact ih0 _ _ _ _ _ _
      | exact ih1 _ _ _ _ _ _
      | exact ih2 _ _ _ _ _ _ _
      | exact ih3 _ _ _ _ _ _ _ _ _ _ _ _ _
      | exact testamurref07_Eval.mono _ _ _
      | exact LeO.none _
      | refine LeO.ite ?_ ?_
      | refine LeO.bind ?_ (fun _ => ?_)
    · intro y0 y1 y2 y3 y4 y5 y6 y7 y8 y9 y10 y11 y12
      unfold testamurref08_Split.l1
      repeat' first
      | (with_reducible exact ih0 _ _ _ _ _ _)
      | (with_reducible exact ih1 _ _ _ _ _ _)
      | (with_reducible exact ih2 _ _ _ _ _ _ _)
      | (with_reducible exact ih3 _ _ _ _ _ _ _ _ _ _ _ _ _)
      | (with_reducible exact testamurref07_Eval.mono _ _ _)
      | (with_reducible exact LeO.refl _)
      | (with_reducible exact LeO.none _)
      | (with_reducible refine LeO.ite ?_ ?_)
      | (with_reducible refine LeO.bind ?_ (fun _ => ?_))
      | exact ih0 _ _ _ _ _ _
      | exact ih1 _ _ _ _ _ _
      | exact ih2 _ _ _ _ _ _ _
      | exact ih3 _ _ _ _ _ _ _ _ _ _ _ _ _
      | exact testamurref07_Eval.mono _ _ _
      | exact LeO.none _
      | refine LeO.ite ?_ ?_
      | refine LeO.bind ?_ (fun _ => ?_)
theorem testamurref08_Split.mono : ∀ a0 a1 a2 a3 a4 k, LeO (testamurref08_Split.f k a0 a1 a2 a3 a4) (testamurref08_Split.f (k + 1) a0 a1 a2 a3 a4) := by
  intro a0 a1 a2 a3 a4 k
  obtain ⟨ih0, ih1, ih2, ih3⟩ := testamurref08_Split.mono_l k
  unfold testamurref08_Split.f
  repeat' first
      | (with_reducible exact ih0 _ _ _ _ _ _)
      | (with_reducible exact ih1 _ _ _ _ _ _)
      | (with_reducible exact ih2 _ _ _ _ _ _ _)
      | (with_reducible exact ih3 _ _ _ _ _ _ _ _ _ _ _ _ _)
      | (with_reducible exact testamurref07_Eval.mono _ _ _)
      | (with_reducible exact LeO.refl _)
      | (with_reducible exact LeO.none _)
      | (with_reducible refine LeO.ite ?_ ?_)
      | (with_reducible refine LeO.bind ?_ (fun _ => ?_))
      | exact ih0 _ _ _ _ _ _
      | exact ih1 _ _ _ _ _ _
      | exact ih2 _ _ _ _ _ _ _
      | exact ih3 _ _ _ _ _ _ _ _ _ _ _ _ _
      | exact testamurref07_Eval.mono _ _ _
      | exact LeO.none _
      | refine LeO.ite ?_ ?_
      | refine LeO.bind ?_ (fun _ => ?_)
def testamurref08_Split.T17 : Bool × List (List Nat × List Nat) := (true, [([], []), ([], []), ([0, 1], [0, 1]), ([2], [2]), ([3], [3]), ([], []), ([], []), ([], []), ([7], [7]), ([6, 8], [6, 8]), ([], []), ([10], [10]), ([], []), ([12], [12]), ([11, 13], [11, 13]), ([5, 9, 14], [5, 9, 14]), ([4, 15], [4, 15]), ([16, 16, 0, 1, 2, 3, 4, 5, 6, 7, 8, 9, 10, 11, 12, 13, 14, 15, 16], [16])])
def testamurref08_Split.B17 : List Nat := [0, 0, 3, 7, 15, 0, 0, 0, 128, 448, 0, 1024, 0, 4096, 15360, 32736, 65535, 131071]
theorem testamurref08_Split.tab17 : rtab .any (opsOf Try.f26 17) = testamurref08_Split.T17 := by kernel_rfl
theorem testamurref08_Split.bits17 : waitsOk testamurref08_Split.T17.2 testamurref08_Split.B17 = true := by kernel_rfl
def testamurref08_Split.T18 : Bool × List (List Nat × List Nat) := (true, [([], []), ([0], [0]), ([], []), ([], []), ([3], [3]), ([2, 4], [2, 4]), ([5], [5]), ([1, 6, 5], [1, 6]), ([0, 1, 2, 3, 4, 5, 6, 7], []), ([8, 7, 7, 0, 1, 2, 3, 4, 5, 6, 7], [7, 8])])
def testamurref08_Split.B18 : List Nat := [0, 1, 0, 0, 8, 28, 60, 127, 255, 511]
theorem testamurref08_Split.tab18 : rtab .any (opsOf Try.f26 18) = testamurref08_Split.T18 := by kernel_rfl
theorem testamurref08_Split.bits18 : waitsOk testamurref08_Split.T18.2 testamurref08_Split.B18 = true := by kernel_rfl
set_option maxHeartbeats 8000000 in
set_option maxRecDepth 100000 in
theorem testamurref08_Split.calls (k : Nat) (A0 : Option Addr) (c0 : Nat) (l0 : List Int) (a1 : Int) (a2 : Int) (a3 : Int) (A4 : Option Addr) (c4 : Nat) (l4 : List Int) (r1 : List (S52)) (r2 : Int) (w : World) (hr0 : Kd.C (Kd.int .u8) w A0 l0.length l0) (hc0 : l0.length ≤ c0) (hr4 : Kd.C (Kd.int .u8) w A4 l4.length l4) (hc4 : l4.length ≤ c4) (h : testamurref08_Split.f k l0 a1 a2 a3 l4 = some (r1, r2)) :
    Calls Try.prog 26 #[.slice A0 l0.length c0, .int .i64 a1, .int .i64 a2, .int .i64 a3, .slice A4 l4.length c4] w fun e w' => ∃ v0_ : Value, e = .returned (.tuple #[v0_, .int .i64 r2]) ∧ Kd.S k52 52 w' w.heap.size (fun _ => True) v0_ r1 ∧ Below w.heap.size w w' := by
  have hu52 := Try.underlying52
  have HR0 := Aside0.mk hr0
  have HC0 := Aside0.mk hc0
  clear hr0 hc0
  have HR4 := Aside0.mk hr4
  have HC4 := Aside0.mk hc4
  clear hr4 hc4
  have HB := Aside0.mk (Below.refl w.heap.size w)
  have H : (if (l0.length : Int) > 64 then (some (([] : List (S52)), 1)) else (if a2 < 1 then (testamurref08_Split.j0 k l0 a1 a2 a3 l4 true) else (if a2 > a3 then (testamurref08_Split.j0 k l0 a1 a2 a3 l4 true) else (testamurref08_Split.j0 k l0 a1 a2 a3 l4 (decide (a3 > 8)))))) = some (r1, r2) := h
  clear h
  by_cases c6 : (l0.length : Int) > 64
  · rw [if_pos c6] at H
    have c6b0 : decide (64 < (l0.length : Int)) = true := decide_eq_true c6
    have c6b1 : decide (64 < l0.length) = true := decide_eq_true (by omega)
    clear c6
    simp only [Option.some.injEq, Prod.mk.injEq] at H
    obtain ⟨rfl, rfl⟩ := H
    go_enter Try.func26, Try.ntmps26
    go_wp2
    go_ret2
    exact ⟨_, by first | rfl | (simp [errW_none, errW_some] <;> rfl) | (simp [*, errW_none, errW_some] <;> rfl), by first | exact Kd.S_nil _ _ _ _ _ | exact Kd.N_nil _ _ _ _ _ | exact Kd.V_nil _ _ _ _ _ | exact Kd.Q_nil _ _ _ _ _ | exact Kd.R_nil _ _ _ _ _, by repeat (first | (with_reducible first | exact HB.out | apply below_alloc | apply pw_below_drewN | apply below_drew1) | exact HB.out)⟩
  · rw [if_neg c6] at H
    have c6b0 : decide (64 < (l0.length : Int)) = false := decide_eq_false c6
    have c6b1 : decide (64 < l0.length) = false := decide_eq_false (by omega)
    clear c6
    have HC7 := Aside0.mk H
    clear H
    go_enter Try.func26, Try.ntmps26
    go_upto_region 3 with (fail)
    go_cut [30] (fun v30 wc => ∃ (kq : Nat) (x30_6 : Bool), v30 = .bool x30_6 ∧ Aside0 (testamurref08_Split.j0 kq l0 a1 a2 a3 l4 x30_6 = some (r1, r2)) ∧ Aside0 (kq ≤ k) ∧ Aside0 (Below w.heap.size w wc))
    case first =>
      have H := HC7.out
      clear HC7
      by_cases c8 : a2 < 1
      · rw [if_pos c8] at H
        have c8b0 : decide (a2 < 1) = true := decide_eq_true c8
        clear c8
        (first | rw [c8b0] | (simp only [i64_w, i32_w]; rw [c8b0]) | skip)
        have H' := Aside0.mk H
        clear H
        go_wp2
        go_meet
        case rel => exact ⟨_, (true), (by first | rfl | (simp; done) | (simp [*]; done)), H', ⟨by first | omega | exact Nat.le_refl _⟩, ⟨by repeat (first | (with_reducible first | exact HB.out | apply below_alloc | apply pw_below_drewN | apply below_drew1) | exact HB.out)⟩⟩
      · rw [if_neg c8] at H
        have c8b0 : decide (a2 < 1) = false := decide_eq_false c8
        clear c8
        (first | rw [c8b0] | (simp only [i64_w, i32_w]; rw [c8b0]) | skip)
        by_cases c9 : a2 > a3
        · rw [if_pos c9] at H
          have c9b0 : decide (a3 < a2) = true := decide_eq_true c9
          clear c9
          have H' := Aside0.mk H
          clear H
          go_wp2
          go_meet
          case rel => exact ⟨_, (true), (by first | rfl | (simp; done) | (simp [*]; done)), H', ⟨by first | omega | exact Nat.le_refl _⟩, ⟨by repeat (first | (with_reducible first | exact HB.out | apply below_alloc | apply pw_below_drewN | apply below_drew1) | exact HB.out)⟩⟩
        · rw [if_neg c9] at H
          have c9b0 : decide (a3 < a2) = false := decide_eq_false c9
          clear c9
          have H' := Aside0.mk H
          clear H
          go_wp2
          go_meet
          case rel => exact ⟨_, (decide (a3 > 8)), (by first | rfl | (simp; done) | (simp [*]; done)), H', ⟨by first | omega | exact Nat.le_refl _⟩, ⟨by repeat (first | (with_reducible first | exact HB.out | apply below_alloc | apply pw_below_drewN | apply below_drew1) | exact HB.out)⟩⟩
    case rest =>
      clear HC7
      try clear c2
      try clear p2
      try clear c4
      try clear c6
      try clear c6b0
      try clear c6b1
      try clear c8
      try clear c8b0
      try clear c9
      try clear c9b0
      obtain ⟨kq, x30_6, rfl, HA, HJ6, HB⟩ := hcut
      cases kq with
      | zero => exact absurd HA.out (by simp [testamurref08_Split.j0])
      | succ kj6 =>
        have H := HA.out
        clear HA
        simp only [testamurref08_Split.j0] at H
        by_cases c10 : x30_6 = true
        · subst c10
          have H1 : (some (([] : List (S52)), 80)) = some (r1, r2) := by rw [if_pos rfl] at H; exact H
          clear H
          have H := H1
          clear H1
          simp only [Option.some.injEq, Prod.mk.injEq] at H
          obtain ⟨rfl, rfl⟩ := H
          go_wp2
          go_ret2
          exact ⟨_, by first | rfl | (simp [errW_none, errW_some] <;> rfl) | (simp [*, errW_none, errW_some] <;> rfl), by first | exact Kd.S_nil _ _ _ _ _ | exact Kd.N_nil _ _ _ _ _ | exact Kd.V_nil _ _ _ _ _ | exact Kd.Q_nil _ _ _ _ _ | exact Kd.R_nil _ _ _ _ _, by repeat (first | (with_reducible first | exact HB.out | apply below_alloc | apply pw_below_drewN | apply below_drew1) | exact HB.out)⟩
        · replace c10 := Bool.eq_false_iff.mpr c10
          subst c10
          have H1 : (if a1 < 0 then (testamurref08_Split.j1 kj6 l0 a1 a2 a3 l4 true) else (testamurref08_Split.j1 kj6 l0 a1 a2 a3 l4 (decide (a1 > 1048576)))) = some (r1, r2) := by rw [if_neg (show ¬ (false = true) by decide)] at H; exact H
          clear H
          have H := H1
          clear H1
          have HC11 := Aside0.mk H
          clear H
          go_upto_region 5 with (fail)
          go_cut [36] (fun v36 wc => ∃ (kq : Nat) (x36_10 : Bool), v36 = .bool x36_10 ∧ Aside0 (testamurref08_Split.j1 kq l0 a1 a2 a3 l4 x36_10 = some (r1, r2)) ∧ Aside0 (kq ≤ kj6) ∧ Aside0 (Below w.heap.size w wc))
          case first =>
            have H := HC11.out
            clear HC11
            by_cases c12 : a1 < 0
            · rw [if_pos c12] at H
              have c12b0 : decide (a1 < 0) = true := decide_eq_true c12
              clear c12
              (first | rw [c12b0] | (simp only [i64_w, i32_w]; rw [c12b0]) | skip)
              have H' := Aside0.mk H
              clear H
              go_wp2
              go_meet
              case rel => exact ⟨_, (true), (by first | rfl | (simp; done) | (simp [*]; done)), H', ⟨by have := HJ6.out; first | omega | exact Nat.le_refl _⟩, ⟨by repeat (first | (with_reducible first | exact HB.out | apply below_alloc | apply pw_below_drewN | apply below_drew1) | exact HB.out)⟩⟩
            · rw [if_neg c12] at H
              have c12b0 : decide (a1 < 0) = false := decide_eq_false c12
              clear c12
              (first | rw [c12b0] | (simp only [i64_w, i32_w]; rw [c12b0]) | skip)
              have H' := Aside0.mk H
              clear H
              go_wp2
              go_meet
              case rel => exact ⟨_, (decide (a1 > 1048576)), (by first | rfl | (simp; done) | (simp [*]; done)), H', ⟨by have := HJ6.out; first | omega | exact Nat.le_refl _⟩, ⟨by repeat (first | (with_reducible first | exact HB.out | apply below_alloc | apply pw_below_drewN | apply below_drew1) | exact HB.out)⟩⟩
          case rest =>
            clear HC11
            try clear c1
            try clear c2
            try clear p2
            try clear c4
            try clear c6
            try clear c6b0
            try clear c6b1
            try clear c8
            try clear c8b0
            try clear c9
            try clear c9b0
            try clear c10
            try clear c12
            try clear c12b0
            try clear p2
            obtain ⟨kq, x36_10, rfl, HA, HJ10, HB⟩ := hcut
            cases kq with
            | zero => exact absurd HA.out (by simp [testamurref08_Split.j1])
            | succ kj10 =>
              have H := HA.out
              clear HA
              simp only [testamurref08_Split.j1] at H
              by_cases c13 : x36_10 = true
              · subst c13
                have H1 : (some (([] : List (S52)), 81)) = some (r1, r2) := by rw [if_pos rfl] at H; exact H
                clear H
                have H := H1
                clear H1
                simp only [Option.some.injEq, Prod.mk.injEq] at H
                obtain ⟨rfl, rfl⟩ := H
                go_wp2
                go_ret2
                exact ⟨_, by first | rfl | (simp [errW_none, errW_some] <;> rfl) | (simp [*, errW_none, errW_some] <;> rfl), by first | exact Kd.S_nil _ _ _ _ _ | exact Kd.N_nil _ _ _ _ _ | exact Kd.V_nil _ _ _ _ _ | exact Kd.Q_nil _ _ _ _ _ | exact Kd.R_nil _ _ _ _ _, by repeat (first | (with_reducible first | exact HB.out | apply below_alloc | apply pw_below_drewN | apply below_drew1) | exact HB.out)⟩
              · replace c13 := Bool.eq_false_iff.mpr c13
                subst c13
                have H1 : (if (l4.length : Int) = (wrap64 ((l0.length : Int) * (wrap64 (a2 - 1)))) then (testamurref08_Split.l0 kj10 l0 a1 a2 a3 l4 ([] : List (S52)) 1) else (some (([] : List (S52)), 1))) = some (r1, r2) := by rw [if_neg (show ¬ (false = true) by decide)] at H; exact H
                clear H
                have H := H1
                clear H1
                by_cases c14 : (l4.length : Int) = (wrap64 ((l0.length : Int) * (wrap64 (a2 - 1))))
                · rw [if_pos c14] at H
                  have c14b0 : ((l4.length : Int) == (wrap64 ((l0.length : Int) * (wrap64 (a2 - 1))))) = true := beq_iff_eq.mpr c14
                  have c14b1 : ((l4.length : Int) != (wrap64 ((l0.length : Int) * (wrap64 (a2 - 1))))) = false := bne_eq_false_iff_eq.mpr c14
                  clear c14
                  have H' := Aside0.mk H
                  clear H
                  go_wp2
                  go_loopg [12, 13] kj10 (fun kq v12 v13 w' => ∃ (x12_3 : List (S52)) (x13_3 : Int), v13 = .int .i64 x13_3 ∧ Aside0 (testamurref08_Split.l0 kq l0 a1 a2 a3 l4 x12_3 x13_3 = some (r1, r2)) ∧ Aside0 (kq ≤ kj10) ∧ Aside0 (Kd.S k52 52 w' w.heap.size (fun _ => True) v12 x12_3) ∧ Aside0 (Below w.heap.size w w'))
                  case atStart => exact ⟨(([] : List (S52))), (1), (by first | rfl | (simp; done) | (simp [*]; done)), H', ⟨Nat.le_refl _⟩, ⟨by first | exact Kd.S_nil _ _ _ _ _ | exact Kd.N_nil _ _ _ _ _ | exact Kd.V_nil _ _ _ _ _ | exact Kd.Q_nil _ _ _ _ _ | exact Kd.R_nil _ _ _ _ _⟩, ⟨by repeat (first | (with_reducible first | exact HB.out | apply below_alloc | apply pw_below_drewN | apply below_drew1) | exact HB.out)⟩⟩
                  case round =>
                    clear H'
                    try clear c1
                    try clear c2
                    try clear p2
                    try clear c4
                    try clear c6
                    try clear c6b0
                    try clear c6b1
                    try clear p6
                    try clear c8
                    try clear c8b0
                    try clear c9
                    try clear c9b0
                    try clear c10
                    try clear c12
                    try clear c12b0
                    try clear c13
                    try clear c14
                    try clear c14b0
                    try clear c14b1
                    try clear p2
                    obtain ⟨x12_3, x13_3, rfl, HA, HK3, HO_12, HB⟩ := hrel
                    cases gk with
                    | zero => exact absurd HA.out (by simp [testamurref08_Split.l0])
                    | succ k3 =>
                      have H := HA.out
                      clear HA
                      simp only [testamurref08_Split.l0] at H
                      by_cases c15 : x13_3 ≤ a3
                      · rw [if_pos c15] at H
                        have c15b0 : decide (x13_3 ≤ a3) = true := decide_eq_true c15
                        clear c15
                        have H' := Aside0.mk H
                        clear H
                        go_wp2_with (first | ((with_reducible refine gate_dst (N := 14) rfl ?_); refine box_event ?hg (N := 14) ?hd (cs := #[.int .i64 0, .int .i64 0, .int .i64 0, .int .i64 0, .slice none 0 0]) (t := 52) ?hr ?_; (case hd => rfl); (case hg => rfl); (case hr => first | (go_simp; done) | (go_simp; rfl)); intro gb105 hg w16 hbox hb; have n0_ := Aside0.mk (Kd.S_below (Kd.S_elderB (by (with_reducible repeat (first | apply Kd.S_alloc | apply Kd.S_drewN | apply Kd.S_drew)); exact HO_12.out) gb105 (Nat.le_of_eq hg.symm)) hb); have n1_ := Aside0.mk (below_step (by repeat (first | (with_reducible first | exact HB.out | apply below_alloc | apply pw_below_drewN | apply below_drew1) | exact HB.out)) hb); have n2_ := Aside0.mk (hbox); have n3_ := Aside0.mk ((by rw [hg]; exact (below_size (by repeat (first | (with_reducible first | exact HB.out | apply below_alloc | apply pw_below_drewN | apply below_drew1) | exact HB.out))) : w.heap.size ≤ gb105)); have n4_ := Aside0.mk ((by rw [hg]; exact (below_size (by repeat (first | (with_reducible first | exact HB.out | apply below_alloc | apply pw_below_drewN | apply below_drew1) | exact HB.out))) : w.heap.size ≤ gb105)); clear HO_12; clear HB; have HO_12 := n0_; have HB := n1_; have BK105 := n2_; have GW105 := n3_; have GE105 := n4_; clear n0_ n1_ n2_ n3_ n4_; clear hb hbox hg; have hcz17_0 : w16.cell? ⟨gb105, 0, none⟩ = some (.int .i64 0) := (blk_cell BK105.out 0).trans rfl; have hcz17_1 : w16.cell? ⟨gb105, 1, none⟩ = some (.int .i64 0) := (blk_cell BK105.out 1).trans rfl; have hcz17_2 : w16.cell? ⟨gb105, 2, none⟩ = some (.int .i64 0) := (blk_cell BK105.out 2).trans rfl; have hcz17_3 : w16.cell? ⟨gb105, 3, none⟩ = some (.int .i64 0) := (blk_cell BK105.out 3).trans rfl; have hcz17_4 : w16.cell? ⟨gb105, 4, none⟩ = some (.slice none 0 0) := (blk_cell BK105.out 4).trans rfl; have hfz17_0 := blk_frozen BK105.out 0; have hfz17_1 := blk_frozen BK105.out 1; have hfz17_2 := blk_frozen BK105.out 2; have hfz17_3 := blk_frozen BK105.out 3; have hfz17_4 := blk_frozen BK105.out 4))
                        go_loopg [15] k3 (fun kq v15 w' => ∃ (x15_4 : Int) (x106004_4 : List Int) (u106004 : Value), v15 = .int .i64 x15_4 ∧ Aside0 (testamurref08_Split.l1 kq l0 a1 a2 a3 l4 x12_3 x13_3 x15_4 a1 x13_3 a2 a3 x106004_4 = some (r1, r2)) ∧ Aside0 (kq ≤ k3) ∧ Aside0 (Kd.S k52 52 w' w.heap.size (fun k_ => some k_ ≠ (u106004 : Value).ownBlock ∧ k_ ≠ gb105) u12 x12_3) ∧ Aside0 (Kd.R (Kd.int .u8) 5 w' w.heap.size (fun _ => True) u106004 x106004_4) ∧ Aside0 (w'.heap[gb105]? = some (.cells #[.int .i64 a1, .int .i64 x13_3, .int .i64 a2, .int .i64 a3, u106004] 52 (0, 0))) ∧ Aside0 (Below w.heap.size w w'))
                        case atStart => exact ⟨(0), (([] : List Int)), (.slice none 0 0), (by first | rfl | (simp; done) | (simp [*]; done)), H', ⟨Nat.le_refl _⟩, ⟨by (with_reducible repeat (first | apply Kd.S_alloc | apply Kd.S_drewN | apply Kd.S_drew)); exact Kd.S_mono (Kd.S_far (p := ⟨gb105, 4, none⟩) (Kd.S_far (p := ⟨gb105, 3, none⟩) (Kd.S_far (p := ⟨gb105, 2, none⟩) (Kd.S_far (p := ⟨gb105, 1, none⟩) (Kd.S_far (p := ⟨gb105, 0, none⟩) (Kd.S_mono HO_12.out (fun k_ hk => (⟨hk, hk.2⟩ : _ ∧ k_ ≠ gb105))) (fun _ hk => hk.2) (.int .i64 a1)) (fun _ hk => hk.2) (.int .i64 x13_3)) (fun _ hk => hk.2) (.int .i64 a2)) (fun _ hk => hk.2) (.int .i64 a3)) (fun _ hk => hk.2) (.slice none 0 0)) (fun _ hk => ⟨(by simp [Value.ownBlock]), hk.1.2⟩)⟩, ⟨by first | exact Kd.R_nil _ _ _ _ _ | exact Kd.N_nil _ _ _ _ _ | exact Kd.V_nil _ _ _ _ _ | exact Kd.Q_nil _ _ _ _ _ | exact Kd.S_nil _ _ _ _ _⟩, ⟨by (with_reducible repeat (first | refine blk_drewN ?_ _ | refine blk_drew ?_ | refine blk_alloc ?_ _)); refine blk_put (cs := #[.int .i64 a1, .int .i64 x13_3, .int .i64 a2, .int .i64 a3, .slice none 0 0]) ?_ 4 _ rfl; (with_reducible repeat (first | refine blk_drewN ?_ _ | refine blk_drew ?_ | refine blk_alloc ?_ _)); refine blk_put (cs := #[.int .i64 a1, .int .i64 x13_3, .int .i64 a2, .int .i64 0, .slice none 0 0]) ?_ 3 _ rfl; (with_reducible repeat (first | refine blk_drewN ?_ _ | refine blk_drew ?_ | refine blk_alloc ?_ _)); refine blk_put (cs := #[.int .i64 a1, .int .i64 x13_3, .int .i64 0, .int .i64 0, .slice none 0 0]) ?_ 2 _ rfl; (with_reducible repeat (first | refine blk_drewN ?_ _ | refine blk_drew ?_ | refine blk_alloc ?_ _)); refine blk_put (cs := #[.int .i64 a1, .int .i64 0, .int .i64 0, .int .i64 0, .slice none 0 0]) ?_ 1 _ rfl; (with_reducible repeat (first | refine blk_drewN ?_ _ | refine blk_drew ?_ | refine blk_alloc ?_ _)); refine blk_put (cs := #[.int .i64 0, .int .i64 0, .int .i64 0, .int .i64 0, .slice none 0 0]) ?_ 0 _ rfl; (with_reducible repeat (first | refine blk_drewN ?_ _ | refine blk_drew ?_ | refine blk_alloc ?_ _)); exact BK105.out⟩, ⟨by repeat (first | (with_reducible first | exact HB.out | apply below_alloc | apply pw_below_drewN | apply below_drew1 | refine below_set ?_ GE105.out) | exact HB.out)⟩⟩
                        case round =>
                          clear H'
                          try clear c1
                          try clear c2
                          try clear p2
                          try clear c4
                          try clear c6
                          try clear c6b0
                          try clear c6b1
                          try clear p6
                          try clear c8
                          try clear c8b0
                          try clear c9
                          try clear c9b0
                          try clear c10
                          try clear c12
                          try clear c12b0
                          try clear c13
                          try clear c14
                          try clear c14b0
                          try clear c14b1
                          try clear c15
                          try clear c15b0
                          try clear hcz17_0
                          try clear hcz17_1
                          try clear hcz17_2
                          try clear hcz17_3
                          try clear hcz17_4
                          try clear hfz17_0
                          try clear hfz17_1
                          try clear hfz17_2
                          try clear hfz17_3
                          try clear hfz17_4
                          try clear p2
                          try clear p6
                          obtain ⟨x15_4, x106004_4, u106004, rfl, HA, HK4, HO_12, HO_106004, BK105, HB⟩ := hrel
                          cases gk with
                          | zero => exact absurd HA.out (by simp [testamurref08_Split.l1])
                          | succ k4 =>
                            have H := HA.out
                            clear HA
                            simp only [testamurref08_Split.l1] at H
                            by_cases c18 : x15_4 < (l0.length : Int)
                            · rw [if_pos c18] at H
                              have c18b0 : decide (x15_4 < (l0.length : Int)) = true := decide_eq_true c18
                              clear c18
                              by_cases c19 : 0 ≤ x15_4
                              · rw [if_pos c19] at H
                                have c19b0 : decide (0 ≤ x15_4) = true := decide_eq_true c19
                                clear c19
                                obtain ⟨y107, hy107⟩ : ∃ y_ : List Int, y_ = (([rd l0 x15_4] : List Int)) := ⟨_, rfl⟩
                                replace H : (if 0 ≤ (wrap64 (x15_4 * (wrap64 (a2 - 1)))) then (if (wrap64 (x15_4 * (wrap64 (a2 - 1)))) ≤ (wrap64 ((wrap64 (x15_4 + 1)) * (wrap64 (a2 - 1)))) then (if (wrap64 ((wrap64 (x15_4 + 1)) * (wrap64 (a2 - 1)))) ≤ (l4.length : Int) then (if y107.length + ((l4.take ((wrap64 ((wrap64 (x15_4 + 1)) * (wrap64 (a2 - 1)))) : Int).toNat).drop ((wrap64 (x15_4 * (wrap64 (a2 - 1)))) : Int).toNat).length < 140737488355328 then ((testamurref07_Eval.f k4 (y107 ++ ((l4.take ((wrap64 ((wrap64 (x15_4 + 1)) * (wrap64 (a2 - 1)))) : Int).toNat).drop ((wrap64 (x15_4 * (wrap64 (a2 - 1)))) : Int).toNat)) ((x13_3) % 256)).bind fun t114 => (if x106004_4.length < 140737488355328 then (testamurref08_Split.l1 k4 l0 a1 a2 a3 l4 x12_3 x13_3 (wrap64 (x15_4 + 1)) a1 x13_3 a2 a3 (x106004_4 ++ [t114])) else (none))) else (none)) else (none)) else (none)) else (none)) = some (r1, r2) := by first | (rw [hy107]; with_reducible exact H) | (have H2_ := (Option.bind_some _ _).symm.trans H; rw [hy107]; with_reducible exact H2_) | (have H2_ := (Option.bind_some _ _).symm.trans H; with_reducible exact H2_) | with_reducible exact H | (rw [hy107]; exact H) | exact H
                                have Ny107 := Aside0.mk hy107
                                clear hy107
                                obtain ⟨ji20, hji20⟩ : ∃ j_ : Int, (wrap64 (x15_4 * (wrap64 (a2 - 1)))) = j_ := ⟨_, rfl⟩
                                replace H : (if 0 ≤ (ji20) then (if (ji20) ≤ (wrap64 ((wrap64 (x15_4 + 1)) * (wrap64 (a2 - 1)))) then (if (wrap64 ((wrap64 (x15_4 + 1)) * (wrap64 (a2 - 1)))) ≤ (l4.length : Int) then (if y107.length + ((l4.take ((wrap64 ((wrap64 (x15_4 + 1)) * (wrap64 (a2 - 1)))) : Int).toNat).drop ((ji20) : Int).toNat).length < 140737488355328 then ((testamurref07_Eval.f k4 (y107 ++ ((l4.take ((wrap64 ((wrap64 (x15_4 + 1)) * (wrap64 (a2 - 1)))) : Int).toNat).drop ((ji20) : Int).toNat)) ((x13_3) % 256)).bind fun t114 => (if x106004_4.length < 140737488355328 then (testamurref08_Split.l1 k4 l0 a1 a2 a3 l4 x12_3 x13_3 (wrap64 (x15_4 + 1)) a1 x13_3 a2 a3 (x106004_4 ++ [t114])) else (none))) else (none)) else (none)) else (none)) else (none)) = some (r1, r2) := by first | (rw [hji20] at H; exact H) | (simp only [hji20] at H ⊢; exact H)
                                have hji20w : (IntKind.i64.wrap (x15_4 * (wrap64 (a2 - 1)))) = ji20 := (i64_w _).trans hji20
                                by_cases c21 : 0 ≤ (ji20)
                                · rw [if_pos c21] at H
                                  have c21b0 := eq_true c21
                                  have c21b1 : decide (0 ≤ (ji20)) = true := decide_eq_true c21
                                  clear c21
                                  by_cases c22 : (ji20) ≤ (wrap64 ((wrap64 (x15_4 + 1)) * (wrap64 (a2 - 1))))
                                  · rw [if_pos c22] at H
                                    have c22b0 := eq_true c22
                                    have c22b1 : decide ((ji20) ≤ (wrap64 ((wrap64 (x15_4 + 1)) * (wrap64 (a2 - 1))))) = true := decide_eq_true c22
                                    by_cases c23 : (wrap64 ((wrap64 (x15_4 + 1)) * (wrap64 (a2 - 1)))) ≤ (l4.length : Int)
                                    · rw [if_pos c23] at H
                                      have c23b0 := eq_true c23
                                      have c23b1 : decide ((wrap64 ((wrap64 (x15_4 + 1)) * (wrap64 (a2 - 1)))) ≤ (l4.length : Int)) = true := decide_eq_true c23
                                      by_cases c24 : y107.length + ((l4.take ((wrap64 ((wrap64 (x15_4 + 1)) * (wrap64 (a2 - 1)))) : Int).toNat).drop ((ji20) : Int).toNat).length < 140737488355328
                                      · rw [if_pos c24] at H
                                        have LMc24 := Aside0.mk c24
                                        clear c24
                                        obtain ⟨y111, hy111⟩ : ∃ y_ : List Int, y_ = (y107 ++ ((l4.take ((wrap64 ((wrap64 (x15_4 + 1)) * (wrap64 (a2 - 1)))) : Int).toNat).drop ((ji20) : Int).toNat)) := ⟨_, rfl⟩
                                        replace H : ((testamurref07_Eval.f k4 y111 ((x13_3) % 256)).bind fun t114 => (if x106004_4.length < 140737488355328 then (testamurref08_Split.l1 k4 l0 a1 a2 a3 l4 x12_3 x13_3 (wrap64 (x15_4 + 1)) a1 x13_3 a2 a3 (x106004_4 ++ [t114])) else (none))) = some (r1, r2) := by first | (rw [hy111]; with_reducible exact H) | (have H2_ := (Option.bind_some _ _).symm.trans H; rw [hy111]; with_reducible exact H2_) | (have H2_ := (Option.bind_some _ _).symm.trans H; with_reducible exact H2_) | with_reducible exact H | (rw [hy111]; exact H) | exact H
                                        have Ny111 := Aside0.mk hy111
                                        clear hy111
                                        replace H := Option.bind_eq_some_iff.mp H
                                        obtain ⟨t114, A250, H⟩ := H
                                        replace H : (if x106004_4.length < 140737488355328 then (testamurref08_Split.l1 k4 l0 a1 a2 a3 l4 x12_3 x13_3 (wrap64 (x15_4 + 1)) a1 x13_3 a2 a3 (x106004_4 ++ [t114])) else (none)) = some (r1, r2) := H
                                        have A25 := Aside0.mk A250
                                        clear A250
                                        by_cases c26 : x106004_4.length < 140737488355328
                                        · rw [if_pos c26] at H
                                          have LMc26 := Aside0.mk c26
                                          clear c26
                                          obtain ⟨y115, hy115⟩ : ∃ y_ : List Int, y_ = (x106004_4 ++ [t114]) := ⟨_, rfl⟩
                                          replace H : (testamurref08_Split.l1 k4 l0 a1 a2 a3 l4 x12_3 x13_3 (wrap64 (x15_4 + 1)) a1 x13_3 a2 a3 y115) = some (r1, r2) := by first | (rw [hy115]; with_reducible exact H) | (have H2_ := (Option.bind_some _ _).symm.trans H; rw [hy115]; with_reducible exact H2_) | (have H2_ := (Option.bind_some _ _).symm.trans H; with_reducible exact H2_) | with_reducible exact H | (rw [hy115]; exact H) | exact H
                                          have Ny115 := Aside0.mk hy115
                                          clear hy115
                                          have H' := Aside0.mk H
                                          clear H
                                          try go_wp2
                                          have n0_ := Aside0.mk (Kd.S_drew HO_12.out)
                                          have n1_ := Aside0.mk (Kd.R_drew HO_106004.out)
                                          have n2_ := Aside0.mk (blk_drew BK105.out)
                                          have n3_ := Aside0.mk (below_drew1 HB.out)
                                          clear HO_12
                                          clear HO_106004
                                          clear BK105
                                          clear HB
                                          have HO_12 := n0_
                                          have HO_106004 := n1_
                                          have BK105 := n2_
                                          have HB := n3_
                                          clear n0_ n1_ n2_ n3_
                                          have p106 : 0 ≤ (x15_4 : Int) := of_decide_eq_true (by first | (with_reducible assumption) | assumption)
                                          have q106 : x15_4 < (l0.length : Int) := of_decide_eq_true (by first | (with_reducible assumption) | assumption)
                                          obtain ⟨ad106, e106, hx106_0⟩ := Kd.at_int HR0.out x15_4 p106 q106
                                          have hw106_0 := hx106_0
                                          cases e106
                                          replace hx106_0 := (HB.out.cell (World.block_lt_of_cell? w _ hx106_0)).trans hx106_0
                                          replace p106 := eq_true p106
                                          replace q106 := eq_true q106
                                          obtain ⟨i028, hi028, _, hsz28, _⟩ := info_parts info5
                                          obtain ⟨A28, hcut28, hA28, hC28⟩ := print_mid_of (P := Try.prog) (Value.int .u8) 0 30 5 .i64 .i64 Try.underlying30 hi028 hsz28 A4 c4 l4 (ji20) (wrap64 ((wrap64 (x15_4 + 1)) * (wrap64 (a2 - 1)))) (of_decide_eq_true (by first | (with_reducible assumption) | assumption)) (by first | omega | exact of_decide_eq_true (by first | (with_reducible assumption) | assumption)) (of_decide_eq_true (by first | (with_reducible assumption) | assumption)) HC4.out
                                          have HR110 := Aside0.mk (Kd.C_of_reads (h1 := fun _ => rfl) (hA28 _ (Kd.reads_of_C HR4.out)))
                                          have HC110 := Aside0.mk hC28
                                          clear hA28 hC28 hi028 hsz28
                                          refine start_ (n := 18) (S := fun w' => w'.cell? (ad106.add (x15_4).toNat) = some (.int .u8 (rd l0 x15_4))) (ds := []) #[false, false, false, false, false, false, false, false, false, false, false, false, false, false, false, false, false, false] (by kernel_rfl) rfl rfl (((HB.out.cell (World.block_lt_of_cell? w _ hw106_0)).trans hw106_0)) (fun hHeld => ?_); refine with_tabW testamurref08_Split.tab17 testamurref08_Split.bits17 (fun HT_ HW_ => ?_)
                                          generalize wr.drew = w27 at HO_12 HO_106004 BK105 HB HR110 hx106_0 hHeld ⊢
                                          refine pure_ (i := 0) (N := some 61) (v := ?_) (a' := ?_) #[true, false, false, false, false, false, false, false, false, false, false, false, false, false, false, false, false, false] rfl rfl (any_of HT_.out (by kernel_rfl)) (fun _ _ _ h => h) (Or.inl ⟨by rfl, ?_⟩) ?_ ?_
                                          rotate_left
                                          · intro w'
                                            go_simp
                                            with_reducible rfl
                                          rotate_left
                                          · simp only [Act.put, List.setIfInBounds_toArray, List.set_cons_zero, List.set_cons_succ, i64_w, i32_w]
                                            rfl
                                          refine pure_ (i := 1) (N := some 62) (v := ?_) (a' := ?_) #[true, true, false, false, false, false, false, false, false, false, false, false, false, false, false, false, false, false] rfl rfl (any_of HT_.out (by kernel_rfl)) (fun _ _ _ h => h) (Or.inl ⟨by rfl, ?_⟩) ?_ ?_
                                          rotate_left
                                          · intro w'
                                            go_simp
                                            with_reducible rfl
                                          rotate_left
                                          · simp only [Act.put, List.setIfInBounds_toArray, List.set_cons_zero, List.set_cons_succ, i64_w, i32_w]
                                            rfl
                                          refine pure_ (i := 2) (N := some 63) (v := ?_) (a' := ?_) #[true, true, true, false, false, false, false, false, false, false, false, false, false, false, false, false, false, false] rfl rfl (any_of HT_.out (by kernel_rfl)) (fun _ _ _ h => h) (Or.inl ⟨by rfl, ?_⟩) ?_ ?_
                                          rotate_left
                                          · intro w'
                                            go_simp
                                            with_reducible rfl
                                          rotate_left
                                          · simp only [Act.put, List.setIfInBounds_toArray, List.set_cons_zero, List.set_cons_succ, i64_w, i32_w]
                                            rfl
                                          refine pure_ (i := 5) (N := some 66) (v := ?_) (a' := ?_) #[true, true, true, false, false, true, false, false, false, false, false, false, false, false, false, false, false, false] rfl rfl (any_of HT_.out (by kernel_rfl)) (fun _ _ _ h => h) (Or.inl ⟨by rfl, ?_⟩) ?_ ?_
                                          rotate_left
                                          · intro w'
                                            go_simp
                                            with_reducible rfl
                                          rotate_left
                                          · simp only [Act.put, List.setIfInBounds_toArray, List.set_cons_zero, List.set_cons_succ, i64_w, i32_w]
                                            rfl
                                          refine pure_ (i := 6) (N := some 67) (v := ?_) (a' := ?_) #[true, true, true, false, false, true, true, false, false, false, false, false, false, false, false, false, false, false] rfl rfl (any_of HT_.out (by kernel_rfl)) (fun _ _ _ h => h) (Or.inl ⟨by rfl, ?_⟩) ?_ ?_
                                          rotate_left
                                          · intro w'
                                            go_simp
                                            with_reducible rfl
                                          rotate_left
                                          · simp only [Act.put, List.setIfInBounds_toArray, List.set_cons_zero, List.set_cons_succ, i64_w, i32_w]
                                            rfl
                                          refine pure_ (i := 7) (N := some 68) (v := ?_) (a' := ?_) #[true, true, true, false, false, true, true, true, false, false, false, false, false, false, false, false, false, false] rfl rfl (any_of HT_.out (by kernel_rfl)) (fun _ _ _ h => h) (Or.inl ⟨by rfl, ?_⟩) ?_ ?_
                                          rotate_left
                                          · intro w'
                                            go_simp
                                            with_reducible rfl
                                          rotate_left
                                          · simp only [Act.put, List.setIfInBounds_toArray, List.set_cons_zero, List.set_cons_succ, i64_w, i32_w]
                                            rfl
                                          refine pure_ (i := 8) (N := some 69) (v := ?_) (a' := ?_) #[true, true, true, false, false, true, true, true, true, false, false, false, false, false, false, false, false, false] rfl rfl (any_of HT_.out (by kernel_rfl)) (fun _ _ _ h => h) (Or.inl ⟨by rfl, ?_⟩) ?_ ?_
                                          rotate_left
                                          · intro w'
                                            go_simp
                                            with_reducible rfl
                                          rotate_left
                                          · simp only [Act.put, List.setIfInBounds_toArray, List.set_cons_zero, List.set_cons_succ, i64_w, i32_w]
                                            rfl
                                          refine pure_ (i := 9) (N := some 70) (v := ?_) (a' := ?_) #[true, true, true, false, false, true, true, true, true, true, false, false, false, false, false, false, false, false] rfl rfl (any_of HT_.out (by kernel_rfl)) (fun _ _ _ h => h) (Or.inl ⟨by rfl, ?_⟩) ?_ ?_
                                          rotate_left
                                          · intro w'
                                            go_simp
                                            with_reducible rfl
                                          rotate_left
                                          · simp only [Act.put, List.setIfInBounds_toArray, List.set_cons_zero, List.set_cons_succ, i64_w, i32_w]
                                            rfl
                                          refine pure_ (i := 10) (N := some 71) (v := ?_) (a' := ?_) #[true, true, true, false, false, true, true, true, true, true, true, false, false, false, false, false, false, false] rfl rfl (any_of HT_.out (by kernel_rfl)) (fun _ _ _ h => h) (Or.inl ⟨by rfl, ?_⟩) ?_ ?_
                                          rotate_left
                                          · intro w'
                                            go_simp
                                            with_reducible rfl
                                          rotate_left
                                          · simp only [Act.put, List.setIfInBounds_toArray, List.set_cons_zero, List.set_cons_succ, i64_w, i32_w]
                                            rfl
                                          refine pure_ (i := 11) (N := some 72) (v := ?_) (a' := ?_) #[true, true, true, false, false, true, true, true, true, true, true, true, false, false, false, false, false, false] rfl rfl (any_of HT_.out (by kernel_rfl)) (fun _ _ _ h => h) (Or.inl ⟨by rfl, ?_⟩) ?_ ?_
                                          rotate_left
                                          · intro w'
                                            go_simp
                                            with_reducible rfl
                                          rotate_left
                                          · simp only [Act.put, List.setIfInBounds_toArray, List.set_cons_zero, List.set_cons_succ, i64_w, i32_w]
                                            rfl
                                          refine pure_ (i := 12) (N := some 73) (v := ?_) (a' := ?_) #[true, true, true, false, false, true, true, true, true, true, true, true, true, false, false, false, false, false] rfl rfl (any_of HT_.out (by kernel_rfl)) (fun _ _ _ h => h) (Or.inl ⟨by rfl, ?_⟩) ?_ ?_
                                          rotate_left
                                          · intro w'
                                            go_simp
                                            with_reducible rfl
                                          rotate_left
                                          · simp only [Act.put, List.setIfInBounds_toArray, List.set_cons_zero, List.set_cons_succ, i64_w, i32_w]
                                            rfl
                                          refine pure_ (i := 13) (N := some 74) (v := ?_) (a' := ?_) #[true, true, true, false, false, true, true, true, true, true, true, true, true, true, false, false, false, false] rfl rfl (any_of HT_.out (by kernel_rfl)) (fun _ _ _ h => h) (Or.inl ⟨by rfl, ?_⟩) ?_ ?_
                                          rotate_left
                                          · intro w'
                                            go_simp
                                            with_reducible rfl
                                          rotate_left
                                          · simp only [Act.put, List.setIfInBounds_toArray, List.set_cons_zero, List.set_cons_succ, i64_w, i32_w]
                                            rfl
                                          refine pure_ (i := 14) (N := some 75) (v := ?_) (a' := ?_) #[true, true, true, false, false, true, true, true, true, true, true, true, true, true, true, false, false, false] rfl rfl (any_of HT_.out (by kernel_rfl)) (fun _ _ _ h => h) (Or.inl ⟨by rfl, ?_⟩) ?_ ?_
                                          rotate_left
                                          · intro w'
                                            go_simp
                                            with_reducible rfl
                                          rotate_left
                                          · simp only [Act.put, List.setIfInBounds_toArray, List.set_cons_zero, List.set_cons_succ, i64_w, i32_w]
                                            rfl
                                          refine pure_ (i := 15) (N := some 76) (v := ?_) (a' := ?_) #[true, true, true, false, false, true, true, true, true, true, true, true, true, true, true, true, false, false] rfl rfl (any_of HT_.out (by kernel_rfl)) (fun _ _ _ h => h) (Or.inl ⟨by rfl, ?_⟩) ?_ ?_
                                          rotate_left
                                          · intro w'
                                            go_simp
                                            with_reducible rfl
                                          rotate_left
                                          · simp only [Act.put, List.setIfInBounds_toArray, List.set_cons_zero, List.set_cons_succ, i64_w, i32_w]
                                            rfl
                                          refine take_ (i := 3) (N := some 64) (v := ?_) (a' := ?_) #[true, true, true, true, false, true, true, true, true, true, true, true, true, true, true, true, false, false] rfl rfl (take_ofW HT_.out HW_.out (by kernel_rfl)) (fun _ _ _ h => h) (Or.inl ⟨by rfl, ?_⟩) hHeld ?_ ?_
                                          rotate_left
                                          · intro w' s0
                                            go_simp
                                            with_reducible rfl
                                          rotate_left
                                          · simp only [Act.put, List.setIfInBounds_toArray, List.set_cons_zero, List.set_cons_succ, i64_w, i32_w]
                                            rfl
                                          refine one_ (i := 4) (N := some 65) #[true, true, true, true, true, true, true, true, true, true, true, true, true, true, true, true, false, false] rfl rfl (one_of HT_.out (by kernel_rfl)) (by decide) (fun K hK => ?_)
                                          refine Kd.R_lit_step (Kd.int .u8) _ 5 ?hg (N := 65) ?hd (xs := ([rd l0 x15_4] : List Int)) (inner := [.int .u8 (rd l0 x15_4)]) (ok := fun _ => True) (okp := fun _ => True) ?hr ?hp (fun _ hk => hk) trivial (Below.refl _ _) (Nat.le_refl _) (by simp) ?_; (case hd => rfl); (case hg => rfl); (case hr => first | (go_simp; done) | (go_simp; rfl)); (case hp => exact (Reps.one (show Kd.M (Kd.int .u8) _ _ _ (rd l0 x15_4) [.int .u8 (rd l0 x15_4)] from rfl) (Reps.none _ _)))
                                          intro v108 w29 ho30 hb hg_ hnew_
                                          clear hg_ hnew_
                                          (first | rw [← Ny107.out] at ho30 | (simp only [Int.reduceToNat] at ho30; rw [← Ny107.out] at ho30))
                                          have n0_ := Aside0.mk (Kd.S_elder' (by (with_reducible repeat (first | apply Kd.S_alloc | apply Kd.S_drewN | apply Kd.S_drew)); exact HO_12.out) (Kd.R_base ho30) hb)
                                          have n1_ := Aside0.mk (Kd.R_elder' (by (with_reducible repeat (first | apply Kd.R_alloc | apply Kd.R_drewN | apply Kd.R_drew)); exact HO_106004.out) (Kd.R_base ho30) hb)
                                          have n2_ := Aside0.mk (Kd.R_lower (Kd.R_new' ho30 (Kd.R_lt (by (with_reducible repeat (first | apply Kd.R_alloc | apply Kd.R_drewN | apply Kd.R_drew)); exact HO_106004.out))) (below_size (by repeat (first | (with_reducible first | exact HB.out | apply below_alloc | apply pw_below_drewN | apply below_drew1 | refine below_set ?_ GE105.out) | exact HB.out))))
                                          have n3_ := Aside0.mk (blk_below (g := gb105) (o := .cells #[.int .i64 a1, .int .i64 x13_3, .int .i64 a2, .int .i64 a3, u106004] 52 (0, 0)) (by (with_reducible repeat (first | refine blk_drewN ?_ _ | refine blk_drew ?_ | refine blk_alloc ?_ _)); exact BK105.out) hb)
                                          have n4_ := Aside0.mk (below_step (by repeat (first | (with_reducible first | exact HB.out | apply below_alloc | apply pw_below_drewN | apply below_drew1 | refine below_set ?_ GE105.out) | exact HB.out)) hb)
                                          clear HO_12
                                          clear HO_106004
                                          clear BK105
                                          clear HB
                                          have HO_12 := n0_
                                          have HO_106004 := n1_
                                          have HO109 := n2_
                                          have BK105 := n3_
                                          have HB := n4_
                                          clear n0_ n1_ n2_ n3_ n4_
                                          clear hb ho30
                                          refine hK.out _ _ (((HB.out.cell (World.block_lt_of_cell? w _ hw106_0)).trans hw106_0)) (fun hHeld => ?_)
                                          clear hK K
                                          refine norm_ (a' := ?_) ?_ ?_
                                          rotate_left
                                          · show Act.put _ (some 65) _ = _
                                            simp only [Act.put, List.setIfInBounds_toArray, List.set_cons_zero, List.set_cons_succ, i64_w, i32_w]
                                            rfl
                                          refine one_ (i := 16) (N := some 77) #[true, true, true, true, true, true, true, true, true, true, true, true, true, true, true, true, true, false] rfl rfl (one_of HT_.out (by kernel_rfl)) (by decide) (fun K hK => ?_)
                                          refine Kd.R_append_rows_step (Kd.int .u8) (w0 := w) w.heap.size (by rfl) (.tmp 65) (.tmp 76) 30 5 (.int .u8 0) 1 rfl Try.underlying30 info5 rfl (by decide) (by omega) v108 y107 ((l4.take ((wrap64 ((wrap64 (x15_4 + 1)) * (wrap64 (a2 - 1)))) : Int).toNat).drop ((ji20) : Int).toNat) _ _ _ (fun k_ => some k_ ≠ (u106004 : Value).ownBlock) (fun _ => False) rfl rfl ?aO ?aR (fun _ _ h => h) (fun _ h => h.elim) ?aF ?aB ?aS ?aL ?_
                                          (case aR => first | (rw [← show ((l4.take ((wrap64 ((wrap64 (x15_4 + 1)) * (wrap64 (a2 - 1)))) : Int).toNat).drop ((ji20) : Int).toNat).length = ((wrap64 ((wrap64 (x15_4 + 1)) * (wrap64 (a2 - 1)))).toNat - (ji20).toNat) from (by rw [List.length_drop, List.length_take]; have h_ : ((wrap64 ((wrap64 (x15_4 + 1)) * (wrap64 (a2 - 1)))) : Int) ≤ (l4.length : Int) := of_decide_eq_true (by first | (with_reducible assumption) | assumption); omega)]; repeat (first | exact (Kd.C_below HR110.out HB.out) | (with_reducible refine Kd.C_alloc ?_ _) | (with_reducible refine Kd.C_drewN ?_ _) | (with_reducible refine Kd.C_drew ?_))) | (repeat (first | exact (Kd.C_below HR110.out HB.out) | (with_reducible refine Kd.C_alloc ?_ _) | (with_reducible refine Kd.C_drewN ?_ _) | (with_reducible refine Kd.C_drew ?_))))
                                          (case aB => exact (by repeat (first | (with_reducible first | exact HB.out | apply below_alloc | apply pw_below_drewN | apply below_drew1 | refine below_set ?_ GE105.out) | exact HB.out)))
                                          (case aF => exact (fun k_ hk => Kd.fresh' (Kd.R_lt (by (with_reducible repeat (first | apply Kd.R_alloc | apply Kd.R_drewN | apply Kd.R_drew)); exact HO_106004.out)) k_ hk))
                                          (case aO => exact (by (with_reducible repeat (first | apply Kd.R_alloc | apply Kd.R_drewN | apply Kd.R_drew)); exact Kd.R_mono HO109.out (fun _ hk => hk.2)))
                                          (case aS => exact (below_size (by repeat (first | (with_reducible first | exact HB.out | apply below_alloc | apply pw_below_drewN | apply below_drew1 | refine below_set ?_ GE105.out) | exact HB.out))))
                                          (case aL => have := LMc24.out; have hlx_ := (show ((l4.take ((wrap64 ((wrap64 (x15_4 + 1)) * (wrap64 (a2 - 1)))) : Int).toNat).drop ((ji20) : Int).toNat).length = ((wrap64 ((wrap64 (x15_4 + 1)) * (wrap64 (a2 - 1)))).toNat - (ji20).toNat) from (by rw [List.length_drop, List.length_take]; have h_ : ((wrap64 ((wrap64 (x15_4 + 1)) * (wrap64 (a2 - 1)))) : Int) ≤ (l4.length : Int) := of_decide_eq_true (by first | (with_reducible assumption) | assumption); omega)); omega)
                                          intro v112 w31 ho hb hg hat
                                          rw [← Ny111.out] at ho
                                          have n0_ := Aside0.mk (Kd.S_after (ok := (fun k_ => some k_ ≠ (u106004 : Value).ownBlock ∧ k_ ≠ gb105)) (by (with_reducible repeat (first | apply Kd.S_alloc | apply Kd.S_drewN | apply Kd.S_drew)); exact HO_12.out) hg hat)
                                          have n1_ := Aside0.mk (Kd.R_after (ok := (fun _ => True)) (by (with_reducible repeat (first | apply Kd.R_alloc | apply Kd.R_drewN | apply Kd.R_drew)); exact HO_106004.out) hg hat)
                                          have n2_ := Aside0.mk (blk_grown (g := gb105) (o := .cells #[.int .i64 a1, .int .i64 x13_3, .int .i64 a2, .int .i64 a3, u106004] 52 (0, 0)) (by (with_reducible repeat (first | refine blk_drewN ?_ _ | refine blk_drew ?_ | refine blk_alloc ?_ _)); exact BK105.out) hg (Kd.R_ne HO109.out BK105.out (by decide)))
                                          have n3_ := Aside0.mk (hb)
                                          have n4_ := Aside0.mk (ho)
                                          clear HO_12
                                          clear HO_106004
                                          clear BK105
                                          clear HB
                                          clear HO109
                                          have HO_12 := n0_
                                          have HO_106004 := n1_
                                          have BK105 := n2_
                                          have HB := n3_
                                          have HO113 := n4_
                                          clear n0_ n1_ n2_ n3_ n4_
                                          clear ho hb hg hat
                                          refine hK.out _ _ (((HB.out.cell (World.block_lt_of_cell? w _ hw106_0)).trans hw106_0)) (fun hHeld => ?_)
                                          clear hK K
                                          refine norm_ (a' := ?_) ?_ ?_
                                          rotate_left
                                          · show Act.put _ (some 77) _ = _
                                            simp only [Act.put, List.setIfInBounds_toArray, List.set_cons_zero, List.set_cons_succ, i64_w, i32_w]
                                            rfl
                                          refine pure_ (i := 17) (N := some 16) (v := ?_) (a' := ?_) #[true, true, true, true, true, true, true, true, true, true, true, true, true, true, true, true, true, true] rfl rfl (any_of HT_.out (by kernel_rfl)) (fun _ _ _ h => h) (Or.inl ⟨by rfl, ?_⟩) ?_ ?_
                                          rotate_left
                                          · intro w'
                                            go_simp
                                            with_reducible rfl
                                          rotate_left
                                          · simp only [Act.put, List.setIfInBounds_toArray, List.set_cons_zero, List.set_cons_succ, i64_w, i32_w]
                                            rfl
                                          refine done_ (done_of HT_.out (by kernel_rfl)) ?_
                                          try go_wp2
                                          have n0_ := Aside0.mk (Kd.S_drew HO_12.out)
                                          have n1_ := Aside0.mk (Kd.R_drew HO_106004.out)
                                          have n2_ := Aside0.mk (Kd.R_drew HO113.out)
                                          have n3_ := Aside0.mk (blk_drew BK105.out)
                                          have n4_ := Aside0.mk (below_drew1 HB.out)
                                          clear HO_12
                                          clear HO_106004
                                          clear HO113
                                          clear BK105
                                          clear HB
                                          have HO_12 := n0_
                                          have HO_106004 := n1_
                                          have HO113 := n2_
                                          have BK105 := n3_
                                          have HB := n4_
                                          clear n0_ n1_ n2_ n3_ n4_
                                          obtain ⟨Ao33, co33, eo33⟩ := Kd.R_slice HO113.out
                                          (first | subst eo33 | (injection eo33 with f1_ f2_ f3_; have f4_ := f1_.symm; have f5_ := f3_.symm; clear f1_ f2_ f3_; subst f4_; subst f5_))
                                          refine start_ (n := 10) (S := fun w' => w'.cell? ⟨gb105, 0, none⟩ = some (.int .i64 a1) ∧ w'.cell? ⟨gb105, 1, none⟩ = some (.int .i64 x13_3) ∧ w'.cell? ⟨gb105, 2, none⟩ = some (.int .i64 a2) ∧ w'.cell? ⟨gb105, 3, none⟩ = some (.int .i64 a3) ∧ w'.cell? ⟨gb105, 4, none⟩ = some (u106004)) (ds := [9]) #[false, false, false, false, false, false, false, false, false, false] (by kernel_rfl) rfl rfl ⟨(blk_cell BK105.out 0).trans rfl, (blk_cell BK105.out 1).trans rfl, (blk_cell BK105.out 2).trans rfl, (blk_cell BK105.out 3).trans rfl, (blk_cell BK105.out 4).trans rfl⟩ (fun hHeld => ?_); refine with_tabW testamurref08_Split.tab18 testamurref08_Split.bits18 (fun HT_ HW_ => ?_)
                                          generalize w31.drew = w32 at HO_12 HO_106004 HO113 BK105 HB hHeld ⊢
                                          refine pure_ (i := 0) (N := some 78) (v := ?_) (a' := ?_) #[true, false, false, false, false, false, false, false, false, false] rfl rfl (any_of HT_.out (by kernel_rfl)) (fun _ _ _ h => h) (Or.inl ⟨by rfl, ?_⟩) ?_ ?_
                                          rotate_left
                                          · intro w'
                                            go_simp
                                            with_reducible rfl
                                          rotate_left
                                          · simp only [Act.put, List.setIfInBounds_toArray, List.set_cons_zero, List.set_cons_succ, i64_w, i32_w]
                                            rfl
                                          refine pure_ (i := 2) (N := some 80) (v := ?_) (a' := ?_) #[true, false, true, false, false, false, false, false, false, false] rfl rfl (any_of HT_.out (by kernel_rfl)) (fun _ _ _ h => h) (Or.inl ⟨by rfl, ?_⟩) ?_ ?_
                                          rotate_left
                                          · intro w'
                                            go_simp
                                            with_reducible rfl
                                          rotate_left
                                          · simp only [Act.put, List.setIfInBounds_toArray, List.set_cons_zero, List.set_cons_succ, i64_w, i32_w]
                                            rfl
                                          refine pure_ (i := 3) (N := some 81) (v := ?_) (a' := ?_) #[true, false, true, true, false, false, false, false, false, false] rfl rfl (any_of HT_.out (by kernel_rfl)) (fun _ _ _ h => h) (Or.inl ⟨by rfl, ?_⟩) ?_ ?_
                                          rotate_left
                                          · intro w'
                                            go_simp
                                            with_reducible rfl
                                          rotate_left
                                          · simp only [Act.put, List.setIfInBounds_toArray, List.set_cons_zero, List.set_cons_succ, i64_w, i32_w]
                                            rfl
                                          refine pure_ (i := 4) (N := some 82) (v := ?_) (a' := ?_) #[true, false, true, true, true, false, false, false, false, false] rfl rfl (any_of HT_.out (by kernel_rfl)) (fun _ _ _ h => h) (Or.inl ⟨by rfl, ?_⟩) ?_ ?_
                                          rotate_left
                                          · intro w'
                                            go_simp
                                            with_reducible rfl
                                          rotate_left
                                          · simp only [Act.put, List.setIfInBounds_toArray, List.set_cons_zero, List.set_cons_succ, i64_w, i32_w]
                                            rfl
                                          refine take_ (i := 1) (N := some 79) (v := ?_) (a' := ?_) #[true, true, true, true, true, false, false, false, false, false] rfl rfl (take_ofW HT_.out HW_.out (by kernel_rfl)) (fun _ _ _ h => h) (Or.inl ⟨by rfl, ?_⟩) hHeld ?_ ?_
                                          rotate_left
                                          · rintro w' ⟨s0, s1, s2, s3, s4⟩
                                            go_simp
                                            with_reducible rfl
                                          rotate_left
                                          · simp only [Act.put, List.setIfInBounds_toArray, List.set_cons_zero, List.set_cons_succ, i64_w, i32_w]
                                            rfl
                                          refine one_ (i := 5) (N := some 83) #[true, true, true, true, true, true, false, false, false, false] rfl rfl (one_of HT_.out (by kernel_rfl)) (by decide) (fun K hK => ?_)
                                          refine goes_ Try.func45 (by kernel_rfl) rfl #[.slice Ao33 y111.length co33, .int .u8 ((x13_3) % 256)] (by rfl) rfl rfl (by (try simp only [List.map_toArray, List.map_cons, List.map_nil]); first | done | rfl | (simp only [List.length_drop, List.length_take]; rfl)) ?_
                                          with_reducible refine (testamurref07_Eval.calls k4 _ _ y111 ((x13_3) % 256) t114 _ ?side1 ?side2 A25.out).mono ?_
                                          (case side1 => repeat (first | exact (Kd.R_reads' HO113.out).2.2 | (with_reducible refine Kd.C_alloc ?_ _) | (with_reducible refine Kd.C_drewN ?_ _) | (with_reducible refine Kd.C_drew ?_)))
                                          (case side2 => exact (Kd.R_reads' HO113.out).2.1)
                                          rintro e w34 ⟨rfl, hb⟩
                                          refine ⟨_, rfl, ?_⟩
                                          have n0_ := Aside0.mk (Kd.S_below (by (with_reducible repeat (first | apply Kd.S_alloc | apply Kd.S_drewN | apply Kd.S_drew)); exact HO_12.out) hb)
                                          have n1_ := Aside0.mk (Kd.R_below (by (with_reducible repeat (first | apply Kd.R_alloc | apply Kd.R_drewN | apply Kd.R_drew)); exact HO_106004.out) hb)
                                          have n2_ := Aside0.mk (Kd.R_below (by (with_reducible repeat (first | apply Kd.R_alloc | apply Kd.R_drewN | apply Kd.R_drew)); exact HO113.out) hb)
                                          have n3_ := Aside0.mk (blk_below (g := gb105) (o := .cells #[.int .i64 a1, .int .i64 x13_3, .int .i64 a2, .int .i64 a3, u106004] 52 (0, 0)) (by (with_reducible repeat (first | refine blk_drewN ?_ _ | refine blk_drew ?_ | refine blk_alloc ?_ _)); exact BK105.out) hb)
                                          have n4_ := Aside0.mk (below_step (by repeat (first | (with_reducible first | exact HB.out | apply below_alloc | apply pw_below_drewN | apply below_drew1 | refine below_set ?_ GE105.out) | exact HB.out)) hb)
                                          clear HO_12
                                          clear HO_106004
                                          clear HO113
                                          clear BK105
                                          clear HB
                                          have HO_12 := n0_
                                          have HO_106004 := n1_
                                          have HO113 := n2_
                                          have BK105 := n3_
                                          have HB := n4_
                                          clear n0_ n1_ n2_ n3_ n4_
                                          (try clear hb)
                                          (try clear hb2)
                                          (try clear hk)
                                          (try clear hi)
                                          refine hK.out _ _ ⟨(blk_cell BK105.out 0).trans rfl, (blk_cell BK105.out 1).trans rfl, (blk_cell BK105.out 2).trans rfl, (blk_cell BK105.out 3).trans rfl, (blk_cell BK105.out 4).trans rfl⟩ (fun hHeld => ?_)
                                          clear hK K
                                          refine norm_ (a' := ?_) ?_ ?_
                                          rotate_left
                                          · show Act.put _ (some 83) _ = _
                                            simp only [Act.put, List.setIfInBounds_toArray, List.set_cons_zero, List.set_cons_succ, i64_w, i32_w]
                                            rfl
                                          refine one_ (i := 6) (N := some 84) #[true, true, true, true, true, true, true, false, false, false] rfl rfl (one_of HT_.out (by kernel_rfl)) (by decide) (fun K hK => ?_)
                                          refine value_ (w1 := ?_) (v := ?_) (by rfl) rfl ?_ ?_
                                          rotate_left 2
                                          · go_simp
                                            constructor
                                            · rfl
                                            · rfl
                                          refine hK.out _ _ ⟨(blk_cell (blk_alloc BK105.out _) 0).trans rfl, (blk_cell (blk_alloc BK105.out _) 1).trans rfl, (blk_cell (blk_alloc BK105.out _) 2).trans rfl, (blk_cell (blk_alloc BK105.out _) 3).trans rfl, (blk_cell (blk_alloc BK105.out _) 4).trans rfl⟩ (fun hHeld => ?_)
                                          clear hK K
                                          refine norm_ (a' := ?_) ?_ ?_
                                          rotate_left
                                          · show Act.put _ (some 84) _ = _
                                            simp only [Act.put, List.setIfInBounds_toArray, List.set_cons_zero, List.set_cons_succ, i64_w, i32_w]
                                            rfl
                                          refine one_ (i := 7) (N := some 85) #[true, true, true, true, true, true, true, true, false, false] rfl rfl (one_of HT_.out (by kernel_rfl)) (by decide) (fun K hK => ?_)
                                          refine Kd.R_append_step (Kd.int .u8) (w0 := w) w.heap.size (by rfl) (.tmp 79) (.tmp 84) 30 5 (.int .u8 0) 1 rfl Try.underlying30 info5 rfl (by decide) (by omega) u106004 x106004_4 t114 [.int .u8 t114] (fun k_ => some k_ ≠ (.slice Ao33 y111.length co33 : Value).ownBlock) (fun _ => False) rfl rfl ?aP (fun _ hk => hk.elim) ?aF ?aO ?aB ?aS ?aL ?_
                                          (case aP => exact rfl)
                                          (case aB => exact (by repeat (first | (with_reducible first | exact HB.out | apply below_alloc | apply pw_below_drewN | apply below_drew1 | refine below_set ?_ GE105.out) | exact HB.out)))
                                          (case aF => exact (fun k_ hk => Kd.fresh' (Kd.R_lt (by (with_reducible repeat (first | apply Kd.R_alloc | apply Kd.R_drewN | apply Kd.R_drew)); exact HO113.out)) k_ hk))
                                          (case aO => exact (by (with_reducible repeat (first | apply Kd.R_alloc | apply Kd.R_drewN | apply Kd.R_drew)); exact Kd.R_mono HO_106004.out (fun _ hk => hk.2)))
                                          (case aS => exact (below_size (by repeat (first | (with_reducible first | exact HB.out | apply below_alloc | apply pw_below_drewN | apply below_drew1 | refine below_set ?_ GE105.out) | exact HB.out))))
                                          (case aL => have := LMc26.out; omega)
                                          intro v116 w35 ho hb hg hat
                                          rw [← Ny115.out] at ho
                                          have n0_ := Aside0.mk (Kd.S_after (ok := (fun k_ => some k_ ≠ (.slice Ao33 y111.length co33 : Value).ownBlock ∧ k_ ≠ gb105)) (by (with_reducible repeat (first | apply Kd.S_alloc | apply Kd.S_drewN | apply Kd.S_drew)); exact Kd.S_mono HO_12.out (fun _ hk => ⟨⟨hk.2, hk.1.2⟩, hk.1.1⟩)) hg hat)
                                          have n1_ := Aside0.mk (blk_grown (g := gb105) (o := .cells #[.int .i64 a1, .int .i64 x13_3, .int .i64 a2, .int .i64 a3, u106004] 52 (0, 0)) (by (with_reducible repeat (first | refine blk_drewN ?_ _ | refine blk_drew ?_ | refine blk_alloc ?_ _)); exact BK105.out) hg (Kd.R_ne HO_106004.out BK105.out (by decide)))
                                          have n2_ := Aside0.mk (Kd.R_after (ok := (fun _ => True)) (by (with_reducible repeat (first | apply Kd.R_alloc | apply Kd.R_drewN | apply Kd.R_drew)); exact Kd.R_mono HO113.out (fun _ hk => ⟨trivial, hk⟩)) hg hat)
                                          have n3_ := Aside0.mk (hb)
                                          have n4_ := Aside0.mk (ho)
                                          clear HO_12
                                          clear BK105
                                          clear HO113
                                          clear HB
                                          clear HO_106004
                                          have HO_12 := n0_
                                          have BK105 := n1_
                                          have HO113 := n2_
                                          have HB := n3_
                                          have HO117 := n4_
                                          clear n0_ n1_ n2_ n3_ n4_
                                          clear ho hb hg hat
                                          obtain ⟨Ao36, co36, eo36⟩ := Kd.R_slice HO117.out
                                          (first | subst eo36 | (injection eo36 with f1_ f2_ f3_; have f4_ := f1_.symm; have f5_ := f3_.symm; clear f1_ f2_ f3_; subst f4_; subst f5_))
                                          refine hK.out _ _ ⟨(blk_cell BK105.out 0).trans rfl, (blk_cell BK105.out 1).trans rfl, (blk_cell BK105.out 2).trans rfl, (blk_cell BK105.out 3).trans rfl, (blk_cell BK105.out 4).trans rfl⟩ (fun hHeld => ?_)
                                          clear hK K
                                          refine norm_ (a' := ?_) ?_ ?_
                                          rotate_left
                                          · show Act.put _ (some 85) _ = _
                                            simp only [Act.put, List.setIfInBounds_toArray, List.set_cons_zero, List.set_cons_succ, i64_w, i32_w]
                                            rfl
                                          refine pure_ (i := 8) (N := some 86) (v := ?_) (a' := ?_) #[true, true, true, true, true, true, true, true, true, false] rfl rfl (any_of HT_.out (by kernel_rfl)) (fun _ _ _ h => h) (Or.inl ⟨by rfl, ?_⟩) ?_ ?_
                                          rotate_left
                                          · intro w'
                                            go_simp
                                            with_reducible rfl
                                          rotate_left
                                          · simp only [Act.put, List.setIfInBounds_toArray, List.set_cons_zero, List.set_cons_succ, i64_w, i32_w]
                                            rfl
                                          refine last_ (i := 9) (N := none) #[true, true, true, true, true, true, true, true, true, true] rfl rfl (one_of HT_.out (by kernel_rfl)) (by decide) (fun K hK => ?_)
                                          have hs37 : w35.cell? ⟨gb105, 4, none⟩ = some (u106004) := (blk_cell BK105.out 4).trans rfl
                                          have hfs37 := blk_frozen BK105.out 4
                                          refine skip_ (w1 := ?_) (by rfl) rfl ?_ ?_
                                          rotate_left
                                          · go_simp
                                            rfl
                                          refine hK.out _ _ ?_
                                          clear hK K
                                          refine done_ (done_of HT_.out (by kernel_rfl)) ?_
                                          try go_wp2
                                          go_roundg k4
                                          case measure => have := HJ6.out; have := HJ10.out; have := HK3.out; have := HK4.out; omega
                                          case rel => exact ⟨(wrap64 (x15_4 + 1)), (y115), (.slice Ao36 y115.length co36), (by first | rfl | (simp; done) | (simp [*]; done)), H', ⟨by have := HJ6.out; have := HJ10.out; have := HK3.out; have := HK4.out; omega⟩, ⟨by (with_reducible repeat (first | apply Kd.S_alloc | apply Kd.S_drewN | apply Kd.S_drew)); exact Kd.S_mono (Kd.S_far (p := ⟨gb105, 4, none⟩) (Kd.S_mono HO_12.out (fun k_ hk => (⟨hk, hk.1.2⟩ : _ ∧ k_ ≠ gb105))) (fun _ hk => hk.2) (.slice Ao36 y115.length co36)) (fun _ hk => ⟨hk.1.2, hk.1.1.2⟩)⟩, ⟨by (with_reducible repeat (first | apply Kd.R_alloc | apply Kd.R_drewN | apply Kd.R_drew)); exact Kd.R_mono (Kd.R_far (p := ⟨gb105, 4, none⟩) (Kd.R_types HO117.out BK105.out (by decide)) (fun _ hk => hk.2) (.slice Ao36 y115.length co36)) (fun _ hk => trivial)⟩, ⟨by (with_reducible repeat (first | refine blk_drewN ?_ _ | refine blk_drew ?_ | refine blk_alloc ?_ _)); refine blk_put (cs := #[.int .i64 a1, .int .i64 x13_3, .int .i64 a2, .int .i64 a3, u106004]) ?_ 4 _ rfl; (with_reducible repeat (first | refine blk_drewN ?_ _ | refine blk_drew ?_ | refine blk_alloc ?_ _)); exact BK105.out⟩, ⟨by repeat (first | (with_reducible first | exact HB.out | apply below_alloc | apply pw_below_drewN | apply below_drew1 | refine below_set ?_ GE105.out) | exact HB.out)⟩⟩
                                        · rw [if_neg c26] at H
                                          exact absurd H (by simp)
                                      · rw [if_neg c24] at H
                                        exact absurd H (by simp)
                                    · rw [if_neg c23] at H
                                      exact absurd H (by simp)
                                  · rw [if_neg c22] at H
                                    exact absurd H (by simp)
                                · rw [if_neg c21] at H
                                  exact absurd H (by simp)
                              · rw [if_neg c19] at H
                                exact absurd H (by simp)
                            · rw [if_neg c18] at H
                              have c18b0 : decide (x15_4 < (l0.length : Int)) = false := decide_eq_false c18
                              clear c18
                              by_cases c38 : x12_3.length < 2513169434916
                              · rw [if_pos c38] at H
                                have LMc38 := Aside0.mk c38
                                clear c38
                                obtain ⟨y118, hy118⟩ : ∃ y_ : List (S52), y_ = (x12_3 ++ [(⟨a1, x13_3, a2, a3, x106004_4⟩ : S52)]) := ⟨_, rfl⟩
                                replace H : (testamurref08_Split.l0 k4 l0 a1 a2 a3 l4 y118 (wrap64 (x13_3 + 1))) = some (r1, r2) := by first | (rw [hy118]; with_reducible exact H) | (have H2_ := (Option.bind_some _ _).symm.trans H; rw [hy118]; with_reducible exact H2_) | (have H2_ := (Option.bind_some _ _).symm.trans H; with_reducible exact H2_) | with_reducible exact H | (rw [hy118]; exact H) | exact H
                                have Ny118 := Aside0.mk hy118
                                clear hy118
                                have H' := Aside0.mk H
                                clear H
                                have hcz39_0 : wr.cell? ⟨gb105, 0, none⟩ = some (.int .i64 a1) := (blk_cell BK105.out 0).trans rfl
                                have hcz39_1 : wr.cell? ⟨gb105, 1, none⟩ = some (.int .i64 x13_3) := (blk_cell BK105.out 1).trans rfl
                                have hcz39_2 : wr.cell? ⟨gb105, 2, none⟩ = some (.int .i64 a2) := (blk_cell BK105.out 2).trans rfl
                                have hcz39_3 : wr.cell? ⟨gb105, 3, none⟩ = some (.int .i64 a3) := (blk_cell BK105.out 3).trans rfl
                                have hcz39_4 : wr.cell? ⟨gb105, 4, none⟩ = some (u106004) := (blk_cell BK105.out 4).trans rfl
                                have hfz39_0 := blk_frozen BK105.out 0
                                have hfz39_1 := blk_frozen BK105.out 1
                                have hfz39_2 := blk_frozen BK105.out 2
                                have hfz39_3 := blk_frozen BK105.out 3
                                have hfz39_4 := blk_frozen BK105.out 4
                                obtain ⟨Ao41, co41, eo41⟩ := Kd.R_slice HO_106004.out
                                subst eo41
                                go_wp2_with (first | ((with_reducible refine gate_builtin (b := .append) (xs := #[.tmp 87, .tmp 89]) rfl ?_); at_builtin; refine Kd.S_append k52 (w0 := w) w.heap.size rfl (.tmp 87) (.tmp 89) 37 52 (.agg #[(.int .i64 0), (.int .i64 0), (.int .i64 0), (.int .i64 0), (.slice none 0 0)]) 56 rfl Try.underlying37 info52 rfl (by decide) (by omega) u12 x12_3 (⟨a1, x13_3, a2, a3, x106004_4⟩ : S52) [.int .i64 a1, .int .i64 x13_3, .int .i64 a2, .int .i64 a3, .slice Ao41 x106004_4.length co41] (fun k_ => k_ ≠ gb105) (fun k_ => some k_ = (.slice Ao41 x106004_4.length co41 : Value).ownBlock) rfl rfl ?aP (fun k_ hk_ => ((Kd.R_mono (ok' := fun k_ => ((fun k_ => k_ ≠ gb105)) k_ ∧ some k_ ≠ (u12 : Value).ownBlock) (Kd.R_types (Kd.R_apart' (HO_106004.out) (Kd.S_typed HO_12.out) (by decide)) BK105.out (by decide)) (fun k_ hk => ⟨hk.2, hk.1.2⟩))).1 k_ hk_.symm) ?aF ?aO ?aB ?aS ?aL ?_; (case aP => exact k52_mkM _ _ _ (⟨a1, x13_3, a2, a3, x106004_4⟩ : S52) (Kd.R_mono (Kd.R_tight rfl (Kd.R_mono (ok' := fun k_ => ((fun k_ => k_ ≠ gb105)) k_ ∧ some k_ ≠ (u12 : Value).ownBlock) (Kd.R_types (Kd.R_apart' (HO_106004.out) (Kd.S_typed HO_12.out) (by decide)) BK105.out (by decide)) (fun k_ hk => ⟨hk.2, hk.1.2⟩))) (fun _ h_ => h_))); (case aB => exact (by repeat (first | (with_reducible first | exact HB.out | apply below_alloc | apply pw_below_drewN | apply below_drew1 | refine below_set ?_ GE105.out) | exact HB.out))); (case aF => exact (fun k_ hk => Kd.freshB (g := gb105) (o := .cells #[.int .i64 a1, .int .i64 x13_3, .int .i64 a2, .int .i64 a3, .slice Ao41 x106004_4.length co41] 52 (0, 0)) (by (with_reducible repeat (first | refine blk_drewN ?_ _ | refine blk_drew ?_ | refine blk_alloc ?_ _)); exact BK105.out) k_ hk)); (case aO => exact (by (with_reducible repeat (first | apply Kd.S_alloc | apply Kd.S_drewN | apply Kd.S_drew)); exact Kd.S_mono HO_12.out (fun k_ hk => ⟨hk.2, fun e_ => hk.1 e_⟩))); (case aS => exact (below_size (by repeat (first | (with_reducible first | exact HB.out | apply below_alloc | apply pw_below_drewN | apply below_drew1 | refine below_set ?_ GE105.out) | exact HB.out)))); (case aL => have := LMc38.out; omega); intro v119 w40 ho hb hg hat; rw [← Ny118.out] at ho; have n0_ := Aside0.mk (blk_grown (g := gb105) (o := .cells #[.int .i64 a1, .int .i64 x13_3, .int .i64 a2, .int .i64 a3, .slice Ao41 x106004_4.length co41] 52 (0, 0)) (by (with_reducible repeat (first | refine blk_drewN ?_ _ | refine blk_drew ?_ | refine blk_alloc ?_ _)); exact BK105.out) hg (Kd.S_away HO_12.out (fun _ hk => hk.2))); have n1_ := Aside0.mk (hb); have n2_ := Aside0.mk (ho); clear BK105; clear HB; clear HO_12; clear HO_106004; have BK105 := n0_; have HB := n1_; have HO120 := n2_; clear n0_ n1_ n2_; clear ho hb hg hat))
                                go_roundg k4
                                case measure => have := HJ6.out; have := HJ10.out; have := HK3.out; have := HK4.out; omega
                                case rel => exact ⟨(y118), (wrap64 (x13_3 + 1)), (by first | rfl | (simp; done) | (simp [*]; done)), H', ⟨by have := HJ6.out; have := HJ10.out; have := HK3.out; have := HK4.out; omega⟩, ⟨by (with_reducible repeat (first | apply Kd.S_alloc | apply Kd.S_drewN | apply Kd.S_drew)); exact Kd.S_mono HO120.out (fun _ hk => trivial)⟩, ⟨by repeat (first | (with_reducible first | exact HB.out | apply below_alloc | apply pw_below_drewN | apply below_drew1 | refine below_set ?_ GE105.out) | exact HB.out)⟩⟩
                              · rw [if_neg c38] at H
                                exact absurd H (by simp)
                      · rw [if_neg c15] at H
                        have c15b0 : decide (x13_3 ≤ a3) = false := decide_eq_false c15
                        clear c15
                        simp only [Option.some.injEq, Prod.mk.injEq] at H
                        obtain ⟨rfl, rfl⟩ := H
                        go_wp2
                        go_ret2
                        exact ⟨_, by first | rfl | (simp [errW_none, errW_some] <;> rfl) | (simp [*, errW_none, errW_some] <;> rfl), by (with_reducible repeat (first | apply Kd.S_alloc | apply Kd.S_drewN | apply Kd.S_drew)); exact HO_12.out, by repeat (first | (with_reducible first | exact HB.out | apply below_alloc | apply pw_below_drewN | apply below_drew1) | exact HB.out)⟩
                · rw [if_neg c14] at H
                  have c14b0 : ((l4.length : Int) == (wrap64 ((l0.length : Int) * (wrap64 (a2 - 1))))) = false := beq_eq_false_iff_ne.mpr c14
                  have c14b1 : ((l4.length : Int) != (wrap64 ((l0.length : Int) * (wrap64 (a2 - 1))))) = true := bne_iff_ne.mpr c14
                  simp only [Option.some.injEq, Prod.mk.injEq] at H
                  obtain ⟨rfl, rfl⟩ := H
                  go_wp2
                  go_ret2
                  exact ⟨_, by first | rfl | (simp [errW_none, errW_some] <;> rfl) | (simp [*, errW_none, errW_some] <;> rfl), by first | exact Kd.S_nil _ _ _ _ _ | exact Kd.N_nil _ _ _ _ _ | exact Kd.V_nil _ _ _ _ _ | exact Kd.Q_nil _ _ _ _ _ | exact Kd.R_nil _ _ _ _ _, by repeat (first | (with_reducible first | exact HB.out | apply below_alloc | apply pw_below_drewN | apply below_drew1) | exact HB.out)⟩
end Go.Proofs.Ytillfbohengpaaa.PA
end
section
namespace Go.Proofs.Ytillfbohengpaaa.PA
open Go.RowKit Go.Proofs.YtillfbohengpaaaW.PrintWords Go.Proofs.YtillfbohengpaaaW.PrintLast Go.Proofs.YtillfbohengpaaaW.PrintMore
attribute [local go_sem] max2_int min2_int max_two min_two max_three min_three max_four min_four   -- for this text's walks alone
set_option linter.unusedVariables false
set_option linter.unusedSimpArgs false
def testamurref08_Few.l0 : Nat → List (S52) → Int → Option (Bool)
  | 0, _, _ => none
  | k + 1, x0, x3 => if x3 < (x0.length : Int) then (if 0 ≤ x3 then (if (((rd_T52 x0 x3).f4).length : Int) > 70 then (some false) else (testamurref08_Few.l0 k x0 (wrap64 (x3 + 1)))) else (none)) else (some (decide ((x0.length : Int) ≤ 10)))
def testamurref08_Few.f (k : Nat) (l0 : List (S52)) : Option (Bool) := testamurref08_Few.l0 k l0 0
theorem testamurref08_Few.mono_l : ∀ k, (∀ y0 y1, LeO (testamurref08_Few.l0 k y0 y1) (testamurref08_Few.l0 (k + 1) y0 y1))
  | 0 => fun _ _ r h => by simp [testamurref08_Few.l0] at h
  | k + 1 => by
    have ih0 := testamurref08_Few.mono_l k
    · intro y0 y1
      unfold testamurref08_Few.l0
      repeat' first
      | (with_reducible exact ih0 _ _)
      | (with_reducible exact LeO.refl _)
      | (with_reducible exact LeO.none _)
      | (with_reducible refine LeO.ite ?_ ?_)
      | (with_reducible refine LeO.bind ?_ (fun _ => ?_))
      | exact ih0 _ _
      | exact LeO.none _
      | refine LeO.ite ?_ ?_
      | refine LeO.bind ?_ (fun _ => ?_)
theorem testamurref08_Few.mono : ∀ a0 k, LeO (testamurref08_Few.f k a0) (testamurref08_Few.f (k + 1) a0) := by
  intro a0 k
  have ih0 := testamurref08_Few.mono_l k
  unfold testamurref08_Few.f
  repeat' first
      | (with_reducible exact ih0 _ _)
      | (with_reducible exact LeO.refl _)
      | (with_reducible exact LeO.none _)
      | (with_reducible refine LeO.ite ?_ ?_)
      | (with_reducible refine LeO.bind ?_ (fun _ => ?_))
      | exact ih0 _ _
      | exact LeO.none _
      | refine LeO.ite ?_ ?_
      | refine LeO.bind ?_ (fun _ => ?_)
set_option maxHeartbeats 8000000 in
set_option maxRecDepth 100000 in
theorem testamurref08_Few.calls (k : Nat) (A0 : Option Addr) (c0 : Nat) (l0 : List (S52)) (r : Bool) (w : World) (hr0 : Kd.C k52 w A0 l0.length l0) (hc0 : l0.length ≤ c0) (h : testamurref08_Few.f k l0 = some r) :
    Calls Try.prog 24 #[.slice A0 l0.length c0] w fun e w' => e = .returned (.bool r) ∧ Drawn0 w w' := by
  have HR0 := Aside0.mk hr0
  have HC0 := Aside0.mk hc0
  clear hr0 hc0
  have H : (testamurref08_Few.l0 k l0 0) = some r := h
  clear h
  have H' := Aside0.mk H
  clear H
  go_enter Try.func24, Try.ntmps24
  go_wp2
  go_loopg [3] k (fun kq v3 w' => ∃ (x3_1 : Int), v3 = .int .i64 x3_1 ∧ Aside0 (testamurref08_Few.l0 kq l0 x3_1 = some r) ∧ Aside0 (kq ≤ k) ∧ Drawn0 w w')
  case atStart => exact ⟨(0), (by first | rfl | (simp; done) | (simp [*]; done)), H', ⟨Nat.le_refl _⟩, by repeat (first | exact Drawn0.refl _ | apply Drawn0.step)⟩
  case round =>
    clear H'
    obtain ⟨x3_1, rfl, HA, HK1, ⟨m1, rfl⟩⟩ := hrel
    cases gk with
    | zero => exact absurd HA.out (by simp [testamurref08_Few.l0])
    | succ k1 =>
      have H := HA.out
      clear HA
      simp only [testamurref08_Few.l0] at H
      by_cases c2 : x3_1 < (l0.length : Int)
      · rw [if_pos c2] at H
        have c2b0 : decide (x3_1 < (l0.length : Int)) = true := decide_eq_true c2
        clear c2
        by_cases c3 : 0 ≤ x3_1
        · rw [if_pos c3] at H
          have c3b0 : decide (0 ≤ x3_1) = true := decide_eq_true c3
          clear c3
          by_cases c4 : (((rd_T52 l0 x3_1).f4).length : Int) > 70
          · rw [if_pos c4] at H
            have c4b0 : decide (70 < (((rd_T52 l0 x3_1).f4).length : Int)) = true := decide_eq_true c4
            have c4b1 : decide (70 < ((rd_T52 l0 x3_1).f4).length) = true := decide_eq_true (by omega)
            clear c4
            obtain rfl := Option.some.inj H
            have p101 : 0 ≤ (x3_1 : Int) := of_decide_eq_true (by first | (with_reducible assumption) | assumption)
            have q101 : x3_1 < (l0.length : Int) := of_decide_eq_true (by first | (with_reducible assumption) | assumption)
            obtain ⟨ad101, A101_4, c101_4, e101, hx101_0, hx101_1, hx101_2, hx101_3, hx101_4, hl101_4, hi101_4⟩ := at_T52 HR0.out x3_1 p101 q101
            cases e101
            have HR101_4 := Aside0.mk hi101_4
            have HC101_4 := Aside0.mk hl101_4
            clear hi101_4 hl101_4
            replace p101 := eq_true p101
            replace q101 := eq_true q101
            go_wp2
            go_ret
            exact ⟨by first | rfl | (simp; done) | (simp [*]; done), by repeat (first | exact Drawn0.refl _ | apply Drawn0.step)⟩
          · rw [if_neg c4] at H
            have c4b0 : decide (70 < (((rd_T52 l0 x3_1).f4).length : Int)) = false := decide_eq_false c4
            have c4b1 : decide (70 < ((rd_T52 l0 x3_1).f4).length) = false := decide_eq_false (by omega)
            clear c4
            have H' := Aside0.mk H
            clear H
            have p101 : 0 ≤ (x3_1 : Int) := of_decide_eq_true (by first | (with_reducible assumption) | assumption)
            have q101 : x3_1 < (l0.length : Int) := of_decide_eq_true (by first | (with_reducible assumption) | assumption)
            obtain ⟨ad101, A101_4, c101_4, e101, hx101_0, hx101_1, hx101_2, hx101_3, hx101_4, hl101_4, hi101_4⟩ := at_T52 HR0.out x3_1 p101 q101
            cases e101
            have HR101_4 := Aside0.mk hi101_4
            have HC101_4 := Aside0.mk hl101_4
            clear hi101_4 hl101_4
            replace p101 := eq_true p101
            replace q101 := eq_true q101
            go_wp2
            go_roundg k1
            case measure => have := HK1.out; omega
            case rel => exact ⟨(wrap64 (x3_1 + 1)), (by first | rfl | (simp; done) | (simp [*]; done)), H', ⟨by have := HK1.out; omega⟩, by repeat (first | exact Drawn0.refl _ | apply Drawn0.step)⟩
        · rw [if_neg c3] at H
          exact absurd H (by simp)
      · rw [if_neg c2] at H
        have c2b0 : decide (x3_1 < (l0.length : Int)) = false := decide_eq_false c2
        clear c2
        obtain rfl := Option.some.inj H
        go_wp2
        go_ret
        exact ⟨by first | rfl | (simp; done) | (simp [*]; done), by repeat (first | exact Drawn0.refl _ | apply Drawn0.step)⟩
end Go.Proofs.Ytillfbohengpaaa.PA
end
section
set_option linter.unusedVariables false
set_option linter.unusedSimpArgs false
namespace Go.Proofs.Ytillfbohengpaaa
open Go.RowKit Gf Go.Sort
set_option maxRecDepth 100000 in
set_option maxHeartbeats 2000000 in
theorem ralike_u (A : Option Addr) (c n : Nat) (a : Sh) (r : List Sh) (w : World) (h : RS w A n (a :: r)) :
    Calls Try.prog 47 #[.slice A n c] w fun e w' => e = .returned (.bool (headB a && chainB a 0 (a :: r))) ∧ Below w.heap.size w w' := by
  have hn0 : 0 < n := by have := h.1; simp at this; omega
  obtain ⟨b, o, rfl, hb, hc⟩ := h.at 0 hn0
  simp only [List.getElem_cons_zero, Nat.zero_mul, Nat.add_zero] at hc
  obtain ⟨c0, c1, c2, c3, Ad, nd, cd, c4, hda⟩ := hc
  have hz : ((n : Int) == 0) = false := by rw [beq_eq_false_iff_ne]; omega
  have hni : (0 : Int) < (n : Int) := by omega
  obtain ⟨F0, F1, F2, F3, F4, hBN, hltN⟩ := share_new w (.int .i64 a.ep) (.int .i64 a.ix) (.int .i64 a.th) (.int .i64 a.mn) (.slice Ad nd cd) 52
  by_cases h1 : 1 ≤ a.th
  case neg =>
    have hh : headB a = false := by simp [headB, h1]
    rw [hh]
    have d1 : a.th < 1 := by omega
    go_enter Try.func47, Try.ntmps47
    go_wp2_with fail
    go_ret
    exact ⟨rfl, hBN⟩
  have d1 : decide (a.th < 1) = false := decide_eq_false (by omega)
  by_cases h2 : a.th ≤ a.mn
  case neg =>
    have hh : headB a = false := by simp [headB, h2]
    rw [hh]
    have d2 : a.mn < a.th := by omega
    go_enter Try.func47, Try.ntmps47
    go_wp2_with fail
    go_ret
    exact ⟨rfl, hBN⟩
  have d2 : decide (a.mn < a.th) = false := decide_eq_false (by omega)
  by_cases h3 : a.mn ≤ 8
  case neg =>
    have hh : headB a = false := by simp [headB, h3]
    rw [hh]
    have d3 : 8 < a.mn := by omega
    go_enter Try.func47, Try.ntmps47
    go_wp2_with fail
    go_ret
    exact ⟨rfl, hBN⟩
  have d3 : decide (8 < a.mn) = false := decide_eq_false (by omega)
  by_cases h4 : nd ≤ 64
  case neg =>
    have hh : headB a = false := by simp [headB, hda.1, h4]
    rw [hh]
    have d4 : (64 : Int) < (nd : Int) := by omega
    go_enter Try.func47, Try.ntmps47
    go_wp2_with fail
    go_ret
    exact ⟨rfl, hBN⟩
  have d4 : decide ((64 : Int) < (nd : Int)) = false := decide_eq_false (by omega)
  have hh : headB a = true := by simp [headB, h1, h2, h3, hda.1, h4]
  rw [hh, Bool.true_and]
  go_enter Try.func47, Try.ntmps47
  go_wp2_with fail
  clear d1 d2 d3 d4 h1 h2 h3 h4 hh
  generalize hWN : w.alloc _ = WN at *
  clear hWN
  generalize hGN : w.heap.size = GN at *
  go_loopw [4, 5] (fun si _ wr => ∃ (k : Nat) (last : Int), k ≤ n ∧ si = .int .i64 k ∧ 0 ≤ last ∧ (k = 0 → last = 0) ∧ (∀ (h : 0 < k) (h2 : k - 1 < (a :: r).length), ((a :: r)[k - 1]).ix = last) ∧ Below GN w wr ∧ Below WN.heap.size WN wr ∧ Hid (chainB a 0 (a :: r) = chainB a last ((a :: r).drop k))) (fun si _ _ => n - (intOf si).toNat)
  case atStart => exact ⟨0, 0, by omega, rfl, by omega, fun _ => rfl, fun h => by omega, hBN, Below.refl _ _, rfl⟩
  case round =>
    obtain ⟨k, last, hk, rfl, hl0, hlz, hlp, hB, hBW, HC⟩ := hrel
    subst hGN
    by_cases hlt : k < n
    · obtain ⟨b', o', he, hb', hc'⟩ := (h.below hB).at k hlt
      obtain ⟨rfl, rfl⟩ : b' = b ∧ o' = o := by injection he with he; injection he with e1 e2; exact ⟨e1.symm, e2.symm⟩
      clear he
      generalize hs : (a :: r)[k]'(by rw [h.1]; exact hlt) = s at hc'
      have HS := Lib.hid hs; clear hs
      obtain ⟨e0, e1, e2, e3, As, ns, cs, e4, hds⟩ := hc'
      have hlt2 : (k : Int) < (n : Int) := by omega
      have hk63 : (k : Int) + 1 ≤ 9223372036854775807 := by have := h.2.1; omega
      have hw : wrap64 ((k : Int) + 1) = (k : Int) + 1 := by unfold wrap64; omega
      have hcons : (a :: r).drop k = s :: (a :: r).drop (k + 1) := by rw [← HS.out]; exact List.drop_eq_getElem_cons (by rw [h.1]; exact hlt)
      replace HC : Hid (chainB a 0 (a :: r) = chainB a last (s :: (a :: r).drop (k + 1))) := by rw [← hcons]; exact HC
      clear hcons
      have hprev : ∀ m, k = m + 1 → w.cell? ⟨b', o' + m * 5 + 1, none⟩ = some (.int .i64 last) := by
        intro m hm
        subst hm
        obtain ⟨b2, o2, he, hb2, hc2⟩ := h.at m (by omega)
        obtain ⟨rfl, rfl⟩ : b2 = b' ∧ o2 = o' := by injection he with he; injection he with e1 e2; exact ⟨e1.symm, e2.symm⟩
        have hi2 := hlp (by omega) (by rw [h.1]; omega)
        have h5 := hc2.2.1
        simp only [Nat.add_sub_cancel] at hi2
        rw [hi2] at h5
        exact h5
      have HL := Lib.hid hlp
      clear hlp
      go_wp2_with fail
      obtain ⟨f0, f1, f2, f3, f4, hbn, hlt1⟩ := share_new wr (.int .i64 s.ep) (.int .i64 s.ix) (.int .i64 s.th) (.int .i64 s.mn) (.slice As ns cs) 52
      have hB1 := hB.trans (hbn.mono hB.size)
      have hBW1 := bthen hBW hbn
      generalize hW1 : wr.alloc _ = W1 at *
      clear hW1
      generalize wr.heap.size = gn at *
      have G2 := (hBW1.cell (p := ⟨w.heap.size, 2, none⟩) hltN).trans F2
      have G3 := (hBW1.cell (p := ⟨w.heap.size, 3, none⟩) hltN).trans F3
      have G4 := (hBW1.cell (p := ⟨w.heap.size, 4, none⟩) hltN).trans F4
      have hprev1 : ∀ m, k = m + 1 → W1.cell? ⟨b', o' + m * 5 + 1, none⟩ = some (.int .i64 last) := fun m hm => (hB1.cell (p := ⟨b', o' + m * 5 + 1, none⟩) hb).trans (hprev m hm)
      have HP := Lib.hid hprev1
      clear hprev hprev1 e0 e1 e2 e3 e4 F0 F1 F2 F3 F4 c0 c1 c2 c3 c4 hbn hB hBW
      by_cases q1 : s.th = a.th
      case neg =>
        have hok : okAt a last s = false := by simp [okAt, q1]
        have d : (s.th == a.th) = false := by simp [q1]
        have d2 : (s.th != a.th) = true := by simp [q1]
        clear q1
        go_wp2_with fail
        go_quiet (fail)
        go_wp2_with fail
        go_ret
        exact ⟨by rw [chain_not _ _ _ _ _ HC.out hok]; rfl, bdrewN hB1 _⟩
      rw [q1] at f2
      by_cases q2 : s.mn = a.mn
      case neg =>
        have hok : okAt a last s = false := by simp [okAt, q2]
        have d : (s.mn == a.mn) = false := by simp [q2]
        have d2 : (s.mn != a.mn) = true := by simp [q2]
        clear q2
        go_wp2_with fail
        go_quiet (fail)
        go_wp2_with fail
        go_ret
        exact ⟨by rw [chain_not _ _ _ _ _ HC.out hok]; rfl, bdrewN hB1 _⟩
      rw [q2] at f3
      by_cases q3 : ns = nd
      case neg =>
        have hok : okAt a last s = false := by simp [okAt, hds.1, hda.1, q3]
        have d : ((ns : Int) == (nd : Int)) = false := by rw [beq_eq_false_iff_ne]; omega
        have d2 : ((ns : Int) != (nd : Int)) = true := by rw [bne, d]; rfl
        clear q3
        go_wp2_with fail
        go_quiet (fail)
        go_wp2_with fail
        go_ret
        exact ⟨by rw [chain_not _ _ _ _ _ HC.out hok]; rfl, bdrewN hB1 _⟩
      subst q3
      by_cases q4 : 1 ≤ s.ix
      case neg =>
        have hok : okAt a last s = false := by have : ¬ last < s.ix := by omega
                                               simp [okAt, this]
        have d : s.ix < 1 := by omega
        go_wp2_with fail
        go_quiet (fail)
        go_wp2_with fail
        go_ret
        exact ⟨by rw [chain_not _ _ _ _ _ HC.out hok]; rfl, bdrewN hB1 _⟩
      have d4 : decide (s.ix < 1) = false := decide_eq_false (by omega)
      by_cases q5 : s.ix ≤ a.mn
      case neg =>
        have hok : okAt a last s = false := by simp [okAt, q2, q5]
        have d : a.mn < s.ix := by omega
        go_wp2_with fail
        go_quiet (fail)
        go_wp2_with fail
        go_ret
        exact ⟨by rw [chain_not _ _ _ _ _ HC.out hok]; rfl, bdrewN hB1 _⟩
      have d5 : decide (a.mn < s.ix) = false := decide_eq_false (by omega)
      by_cases hk0 : 0 < k
      case neg =>
        have hok : okAt a last s = true := by
          rw [hlz (by omega)]
          have : (0 : Int) < s.ix := by omega
          simp [okAt, q1, q2, this, q5, hds.1, hda.1]
        have d0 : decide ((0 : Int) < (k : Int)) = false := decide_eq_false (by omega)
        have d0' : decide (0 < k) = false := decide_eq_false hk0
        have HK := Lib.hid hk0
        clear hk0
        go_wp2_with fail
        go_quiet (fail)
        go_wp2_with fail
        refine ⟨⟨k + 1, s.ix, by omega, by go_num, by omega, fun h => by omega, fun h1 h2 => ?_, bdrewN hB1 _, bdrewN hBW1 _, chain_step _ _ _ _ _ HC.out hok⟩, by simp [intOf]; omega⟩
        rw [← HS.out]
        rfl
      obtain ⟨m, hm⟩ : ∃ m, k = m + 1 := ⟨k - 1, by omega⟩
      have hpm := HP.out m hm
      have hmn : (m : Int) < (n : Int) := by omega
      have hmn2 : m < n := by omega
      have d0 : decide ((0 : Int) < (k : Int)) = true := decide_eq_true (by omega)
      have d0' : decide (0 < k) = true := decide_eq_true hk0
      have HW : Hid (IntKind.i64.wrap ((k : Int) - 1) = (m : Int)) := by
        show IntKind.i64.wrap ((k : Int) - 1) = (m : Int)
        rw [IntWalk.i64_in _ (by omega)]; omega
      have HM := Lib.hid hm
      clear hm hlz
      by_cases q6 : last < s.ix
      case neg =>
        have hok : okAt a last s = false := by simp [okAt, q6]
        have d : s.ix ≤ last := by omega
        have hwk := HW.out
        go_quiet (fail)
        clear hwk
        go_wp2_with fail
        go_ret
        exact ⟨by rw [chain_not _ _ _ _ _ HC.out hok]; rfl, bdrewN hB1 _⟩
      have d6 : decide (s.ix ≤ last) = false := decide_eq_false (by omega)
      have hok : okAt a last s = true := by simp [okAt, q1, q2, q6, q5, hds.1, hda.1]
      have hwk := HW.out
      go_quiet (fail)
      clear hwk
      go_wp2_with fail
      refine ⟨⟨k + 1, s.ix, by omega, by go_num, by omega, fun h => by omega, fun h1 h2 => ?_, bdrewN hB1 _, bdrewN hBW1 _, chain_step _ _ _ _ _ HC.out hok⟩, by simp [intOf]; omega⟩
      rw [← HS.out]
      rfl
    · obtain rfl : k = n := by omega
      go_wp2_with fail
      go_ret
      refine ⟨?_, hB⟩
      rw [HC.out, List.drop_eq_nil_of_le (by rw [h.1]; exact Nat.le_refl _)]
      rfl
end Go.Proofs.Ytillfbohengpaaa
end
section
namespace Go.Proofs.Ytillfbohengpaaa.PA
open Go.RowKit Go.Proofs.YtillfbohengpaaaW.PrintWords Go.Proofs.YtillfbohengpaaaW.PrintLast Go.Proofs.YtillfbohengpaaaW.PrintMore
attribute [local go_sem] max2_int min2_int max_two min_two max_three min_three max_four min_four   -- for this text's walks alone
set_option linter.unusedVariables false
set_option linter.unusedSimpArgs false
def shares_points.l0 : Nat → Int → List Int → List Int → List (S52) → Int → Int → Option (List Int × List Int)
  | 0, _, _, _, _, _, _ => none
  | k + 1, x1, x4, x5, x8, x9, x10 => if x10 < x9 then (if 0 ≤ x10 then (if x10 < (x8.length : Int) then ((some (([((rd_T52 x8 x10).f1) % 256] : List Int) : List Int)).bind fun y196 => (if x4.length + y196.length < 140737488355328 then (if 0 ≤ x1 then (if x1 < (((rd_T52 x8 x10).f4).length : Int) then ((some (([rd ((rd_T52 x8 x10).f4) x1] : List Int) : List Int)).bind fun y203 => (if x5.length + y203.length < 140737488355328 then (shares_points.l0 k x1 (x4 ++ y196) (x5 ++ y203) x8 x9 (wrap64 (x10 + 1))) else (none))) else (none)) else (none)) else (none))) else (none)) else (none)) else (some (x4, x5))
def shares_points.f (k : Nat) (l0 : List (S52)) (a1 : Int) : Option (List Int × List Int) := shares_points.l0 k a1 ([] : List Int) ([] : List Int) l0 (l0.length : Int) 0
theorem shares_points.mono_l : ∀ k, (∀ y0 y1 y2 y3 y4 y5, LeO (shares_points.l0 k y0 y1 y2 y3 y4 y5) (shares_points.l0 (k + 1) y0 y1 y2 y3 y4 y5))
  | 0 => fun _ _ _ _ _ _ r h => by simp [shares_points.l0] at h
  | k + 1 => by
    have ih0 := shares_points.mono_l k
    · intro y0 y1 y2 y3 y4 y5
      unfold shares_points.l0
      repeat' first
      | (with_reducible exact ih0 _ _ _ _ _ _)
      | (with_reducible exact LeO.refl _)
      | (with_reducible exact LeO.none _)
      | (with_reducible refine LeO.ite ?_ ?_)
      | (with_reducible refine LeO.bind ?_ (fun _ => ?_))
      | exact ih0 _ _ _ _ _ _
      | exact LeO.none _
      | refine LeO.ite ?_ ?_
      | refine LeO.bind ?_ (fun _ => ?_)
theorem shares_points.mono : ∀ a0 a1 k, LeO (shares_points.f k a0 a1) (shares_points.f (k + 1) a0 a1) := by
  intro a0 a1 k
  have ih0 := shares_points.mono_l k
  unfold shares_points.f
  repeat' first
      | (with_reducible exact ih0 _ _ _ _ _ _)
      | (with_reducible exact LeO.refl _)
      | (with_reducible exact LeO.none _)
      | (with_reducible refine LeO.ite ?_ ?_)
      | (with_reducible refine LeO.bind ?_ (fun _ => ?_))
      | exact ih0 _ _ _ _ _ _
      | exact LeO.none _
      | refine LeO.ite ?_ ?_
      | refine LeO.bind ?_ (fun _ => ?_)
def shares_points.T4 : Bool × List (List Nat × List Nat) := (true, [([], []), ([], []), ([1], [1]), ([2], [2]), ([3], [3]), ([0, 4], [0, 4]), ([], []), ([], []), ([7], [7]), ([], []), ([8, 9], [8, 9]), ([10], [10]), ([11], [11]), ([6, 12, 5], [6, 12]), ([5, 13, 0, 1, 2, 3, 4, 5], [0, 5]), ([13, 14, 0, 1, 2, 3, 4, 5, 6, 7, 8, 9, 10, 11, 12, 13, 14], [6, 13])])
def shares_points.B4 : List Nat := [0, 0, 2, 6, 14, 31, 0, 0, 128, 0, 896, 1920, 3968, 8191, 16383, 32767]
theorem shares_points.tab4 : rtab .any (opsOf Try.f50 4) = shares_points.T4 := by kernel_rfl
theorem shares_points.bits4 : waitsOk shares_points.T4.2 shares_points.B4 = true := by kernel_rfl
set_option maxHeartbeats 8000000 in
set_option maxRecDepth 100000 in
theorem shares_points.calls (k : Nat) (A0 : Option Addr) (c0 : Nat) (l0 : List (S52)) (a1 : Int) (r1 : List Int) (r2 : List Int) (w : World) (hr0 : Kd.C k52 w A0 l0.length l0) (hc0 : l0.length ≤ c0) (h : shares_points.f k l0 a1 = some (r1, r2)) :
    Calls Try.prog 50 #[.slice A0 l0.length c0, .int .i64 a1] w fun e w' => ∃ v0_ v1_ : Value, e = .returned (.tuple #[v0_, v1_]) ∧ Kd.R (Kd.int .u8) 5 w' w.heap.size (fun k_ => some k_ ≠ (v1_ : Value).ownBlock) v0_ r1 ∧ Kd.R (Kd.int .u8) 5 w' w.heap.size (fun k_ => some k_ ≠ (v0_ : Value).ownBlock) v1_ r2 ∧ Below w.heap.size w w' := by
  have hu52 := Try.underlying52
  have HR0 := Aside0.mk hr0
  have HC0 := Aside0.mk hc0
  clear hr0 hc0
  have HB := Aside0.mk (Below.refl w.heap.size w)
  have H : (shares_points.l0 k a1 ([] : List Int) ([] : List Int) l0 (l0.length : Int) 0) = some (r1, r2) := h
  clear h
  have H' := Aside0.mk H
  clear H
  go_enter Try.func50, Try.ntmps50
  go_wp2
  go_loopg [4, 5, 10] k (fun kq v4 v5 v10 w' => ∃ (x4_1 : List Int) (x5_1 : List Int) (x10_1 : Int), v10 = .int .i64 x10_1 ∧ Aside0 (shares_points.l0 kq a1 x4_1 x5_1 l0 (l0.length : Int) x10_1 = some (r1, r2)) ∧ Aside0 (kq ≤ k) ∧ Aside0 (Kd.R (Kd.int .u8) 5 w' w.heap.size (fun k_ => some k_ ≠ (v5 : Value).ownBlock) v4 x4_1) ∧ Aside0 (Kd.R (Kd.int .u8) 5 w' w.heap.size (fun k_ => some k_ ≠ (v4 : Value).ownBlock) v5 x5_1) ∧ Aside0 (Below w.heap.size w w'))
  case atStart => exact ⟨(([] : List Int)), (([] : List Int)), (0), (by first | rfl | (simp; done) | (simp [*]; done)), H', ⟨Nat.le_refl _⟩, ⟨by first | exact Kd.R_nil _ _ _ _ _ | exact Kd.N_nil _ _ _ _ _ | exact Kd.V_nil _ _ _ _ _ | exact Kd.Q_nil _ _ _ _ _ | exact Kd.S_nil _ _ _ _ _⟩, ⟨by first | exact Kd.R_nil _ _ _ _ _ | exact Kd.N_nil _ _ _ _ _ | exact Kd.V_nil _ _ _ _ _ | exact Kd.Q_nil _ _ _ _ _ | exact Kd.S_nil _ _ _ _ _⟩, ⟨by repeat (first | (with_reducible first | exact HB.out | apply below_alloc | apply pw_below_drewN | apply below_drew1) | exact HB.out)⟩⟩
  case round =>
    clear H'
    try clear p2
    obtain ⟨x4_1, x5_1, x10_1, rfl, HA, HK1, HO_4, HO_5, HB⟩ := hrel
    cases gk with
    | zero => exact absurd HA.out (by simp [shares_points.l0])
    | succ k1 =>
      have H := HA.out
      clear HA
      simp only [shares_points.l0] at H
      by_cases c3 : x10_1 < (l0.length : Int)
      · rw [if_pos c3] at H
        have c3b0 : decide (x10_1 < (l0.length : Int)) = true := decide_eq_true c3
        clear c3
        by_cases c4 : 0 ≤ x10_1
        · rw [if_pos c4] at H
          have c4b0 : decide (0 ≤ x10_1) = true := decide_eq_true c4
          clear c4
          by_cases c5 : x10_1 < (l0.length : Int)
          · rw [if_pos c5] at H
            have c5b0 : decide (x10_1 < (l0.length : Int)) = true := decide_eq_true c5
            clear c5
            obtain ⟨y196, hy196⟩ : ∃ y_ : List Int, y_ = (([((rd_T52 l0 x10_1).f1) % 256] : List Int)) := ⟨_, rfl⟩
            replace H : (if x4_1.length + y196.length < 140737488355328 then (if 0 ≤ a1 then (if a1 < (((rd_T52 l0 x10_1).f4).length : Int) then ((some (([rd ((rd_T52 l0 x10_1).f4) a1] : List Int) : List Int)).bind fun y203 => (if x5_1.length + y203.length < 140737488355328 then (shares_points.l0 k1 a1 (x4_1 ++ y196) (x5_1 ++ y203) l0 (l0.length : Int) (wrap64 (x10_1 + 1))) else (none))) else (none)) else (none)) else (none)) = some (r1, r2) := by first | (rw [hy196]; with_reducible exact H) | (have H2_ := (Option.bind_some _ _).symm.trans H; rw [hy196]; with_reducible exact H2_) | (have H2_ := (Option.bind_some _ _).symm.trans H; with_reducible exact H2_) | with_reducible exact H | (rw [hy196]; exact H) | exact H
            have Ny196 := Aside0.mk hy196
            clear hy196
            by_cases c6 : x4_1.length + y196.length < 140737488355328
            · rw [if_pos c6] at H
              have LMc6 := Aside0.mk c6
              clear c6
              obtain ⟨y199, hy199⟩ : ∃ y_ : List Int, y_ = (x4_1 ++ y196) := ⟨_, rfl⟩
              replace H : (if 0 ≤ a1 then (if a1 < (((rd_T52 l0 x10_1).f4).length : Int) then ((some (([rd ((rd_T52 l0 x10_1).f4) a1] : List Int) : List Int)).bind fun y203 => (if x5_1.length + y203.length < 140737488355328 then (shares_points.l0 k1 a1 y199 (x5_1 ++ y203) l0 (l0.length : Int) (wrap64 (x10_1 + 1))) else (none))) else (none)) else (none)) = some (r1, r2) := by first | (rw [hy199]; with_reducible exact H) | (have H2_ := (Option.bind_some _ _).symm.trans H; rw [hy199]; with_reducible exact H2_) | (have H2_ := (Option.bind_some _ _).symm.trans H; with_reducible exact H2_) | with_reducible exact H | (rw [hy199]; exact H) | exact H
              have Ny199 := Aside0.mk hy199
              clear hy199
              by_cases c7 : 0 ≤ a1
              · rw [if_pos c7] at H
                have c7b0 : decide (0 ≤ a1) = true := decide_eq_true c7
                clear c7
                by_cases c8 : a1 < (((rd_T52 l0 x10_1).f4).length : Int)
                · rw [if_pos c8] at H
                  have c8b0 : decide (a1 < (((rd_T52 l0 x10_1).f4).length : Int)) = true := decide_eq_true c8
                  clear c8
                  obtain ⟨y203, hy203⟩ : ∃ y_ : List Int, y_ = (([rd ((rd_T52 l0 x10_1).f4) a1] : List Int)) := ⟨_, rfl⟩
                  replace H : (if x5_1.length + y203.length < 140737488355328 then (shares_points.l0 k1 a1 y199 (x5_1 ++ y203) l0 (l0.length : Int) (wrap64 (x10_1 + 1))) else (none)) = some (r1, r2) := by first | (rw [hy203]; with_reducible exact H) | (have H2_ := (Option.bind_some _ _).symm.trans H; rw [hy203]; with_reducible exact H2_) | (have H2_ := (Option.bind_some _ _).symm.trans H; with_reducible exact H2_) | with_reducible exact H | (rw [hy203]; exact H) | exact H
                  have Ny203 := Aside0.mk hy203
                  clear hy203
                  by_cases c9 : x5_1.length + y203.length < 140737488355328
                  · rw [if_pos c9] at H
                    have LMc9 := Aside0.mk c9
                    clear c9
                    obtain ⟨y206, hy206⟩ : ∃ y_ : List Int, y_ = (x5_1 ++ y203) := ⟨_, rfl⟩
                    replace H : (shares_points.l0 k1 a1 y199 y206 l0 (l0.length : Int) (wrap64 (x10_1 + 1))) = some (r1, r2) := by first | (rw [hy206]; with_reducible exact H) | (have H2_ := (Option.bind_some _ _).symm.trans H; rw [hy206]; with_reducible exact H2_) | (have H2_ := (Option.bind_some _ _).symm.trans H; with_reducible exact H2_) | with_reducible exact H | (rw [hy206]; exact H) | exact H
                    have Ny206 := Aside0.mk hy206
                    clear hy206
                    have H' := Aside0.mk H
                    clear H
                    have p194 : 0 ≤ (x10_1 : Int) := of_decide_eq_true (by first | (with_reducible assumption) | assumption)
                    have q194 : x10_1 < (l0.length : Int) := of_decide_eq_true (by first | (with_reducible assumption) | assumption)
                    obtain ⟨ad194, A194_4, c194_4, e194, hx194_0, hx194_1, hx194_2, hx194_3, hx194_4, hl194_4, hi194_4⟩ := at_T52 HR0.out x10_1 p194 q194
                    cases e194
                    replace hx194_0 := (HB.out.cell (World.block_lt_of_cell? w _ hx194_0)).trans hx194_0
                    replace hx194_1 := (HB.out.cell (World.block_lt_of_cell? w _ hx194_1)).trans hx194_1
                    replace hx194_2 := (HB.out.cell (World.block_lt_of_cell? w _ hx194_2)).trans hx194_2
                    replace hx194_3 := (HB.out.cell (World.block_lt_of_cell? w _ hx194_3)).trans hx194_3
                    replace hx194_4 := (HB.out.cell (World.block_lt_of_cell? w _ hx194_4)).trans hx194_4
                    have HR194_4 := Aside0.mk hi194_4
                    have HC194_4 := Aside0.mk hl194_4
                    clear hi194_4 hl194_4
                    replace p194 := eq_true p194
                    replace q194 := eq_true q194
                    try go_wp2_with (first | ((with_reducible refine gate_dst (N := 7) rfl ?_); refine box_event ?hg (N := 7) ?hd (cs := #[.int .i64 0, .int .i64 0, .int .i64 0, .int .i64 0, .slice none 0 0]) (t := 52) ?hr ?_; (case hd => rfl); (case hg => rfl); (case hr => first | (go_simp; done) | (go_simp; rfl)); intro gb195 hg w10 hbox hb; have n0_ := Aside0.mk (Kd.R_below (by (with_reducible repeat (first | apply Kd.R_alloc | apply Kd.R_drewN | apply Kd.R_drew)); exact HO_4.out) hb); have n1_ := Aside0.mk (Kd.R_below (by (with_reducible repeat (first | apply Kd.R_alloc | apply Kd.R_drewN | apply Kd.R_drew)); exact HO_5.out) hb); have n2_ := Aside0.mk (below_step (by repeat (first | (with_reducible first | exact HB.out | apply below_alloc | apply pw_below_drewN | apply below_drew1) | exact HB.out)) hb); have n3_ := Aside0.mk (hbox); have n4_ := Aside0.mk ((by rw [hg]; exact (below_size (by repeat (first | (with_reducible first | exact HB.out | apply below_alloc | apply pw_below_drewN | apply below_drew1) | exact HB.out))) : w.heap.size ≤ gb195)); have n5_ := Aside0.mk ((by rw [hg]; exact (below_size (by repeat (first | (with_reducible first | exact HB.out | apply below_alloc | apply pw_below_drewN | apply below_drew1) | exact HB.out))) : w.heap.size ≤ gb195)); clear HO_4; clear HO_5; clear HB; have HO_4 := n0_; have HO_5 := n1_; have HB := n2_; have BK195 := n3_; have GW195 := n4_; have GE195 := n5_; clear n0_ n1_ n2_ n3_ n4_ n5_; clear hb hbox hg; have hcz11_0 : w10.cell? ⟨gb195, 0, none⟩ = some (.int .i64 0) := (blk_cell BK195.out 0).trans rfl; have hcz11_1 : w10.cell? ⟨gb195, 1, none⟩ = some (.int .i64 0) := (blk_cell BK195.out 1).trans rfl; have hcz11_2 : w10.cell? ⟨gb195, 2, none⟩ = some (.int .i64 0) := (blk_cell BK195.out 2).trans rfl; have hcz11_3 : w10.cell? ⟨gb195, 3, none⟩ = some (.int .i64 0) := (blk_cell BK195.out 3).trans rfl; have hcz11_4 : w10.cell? ⟨gb195, 4, none⟩ = some (.slice none 0 0) := (blk_cell BK195.out 4).trans rfl; have hfz11_0 := blk_frozen BK195.out 0; have hfz11_1 := blk_frozen BK195.out 1; have hfz11_2 := blk_frozen BK195.out 2; have hfz11_3 := blk_frozen BK195.out 3; have hfz11_4 := blk_frozen BK195.out 4; obtain ⟨Ao12, co12, eo12⟩ := Kd.R_slice HO_4.out; subst eo12; obtain ⟨Ao13, co13, eo13⟩ := Kd.R_slice HO_5.out; subst eo13))
                    have n0_ : Aside0 (Kd.R (Kd.int .u8) 5 (((((w10.setCell ⟨gb195, 0, none⟩ (.int .i64 ((rd_T52 l0 x10_1).f0))).setCell ⟨gb195, 1, none⟩ (.int .i64 ((rd_T52 l0 x10_1).f1))).setCell ⟨gb195, 2, none⟩ (.int .i64 ((rd_T52 l0 x10_1).f2))).setCell ⟨gb195, 3, none⟩ (.int .i64 ((rd_T52 l0 x10_1).f3))).setCell ⟨gb195, 4, none⟩ (.slice A194_4 ((rd_T52 l0 x10_1).f4).length c194_4)) w.heap.size (fun k_ => some k_ ≠ (.slice Ao13 x5_1.length co13 : Value).ownBlock) (.slice Ao12 x4_1.length co12) x4_1) := ⟨by (with_reducible repeat (first | apply Kd.R_alloc | apply Kd.R_drewN | apply Kd.R_drew)); exact Kd.R_mono (Kd.R_far (p := ⟨gb195, 4, none⟩) (Kd.R_far (p := ⟨gb195, 3, none⟩) (Kd.R_far (p := ⟨gb195, 2, none⟩) (Kd.R_far (p := ⟨gb195, 1, none⟩) (Kd.R_far (p := ⟨gb195, 0, none⟩) (Kd.R_types HO_4.out BK195.out (by decide)) (fun _ hk => hk.2) (.int .i64 ((rd_T52 l0 x10_1).f0))) (fun _ hk => hk.2) (.int .i64 ((rd_T52 l0 x10_1).f1))) (fun _ hk => hk.2) (.int .i64 ((rd_T52 l0 x10_1).f2))) (fun _ hk => hk.2) (.int .i64 ((rd_T52 l0 x10_1).f3))) (fun _ hk => hk.2) (.slice A194_4 ((rd_T52 l0 x10_1).f4).length c194_4)) (fun _ hk => hk.1)⟩
                    have n1_ : Aside0 (Kd.R (Kd.int .u8) 5 (((((w10.setCell ⟨gb195, 0, none⟩ (.int .i64 ((rd_T52 l0 x10_1).f0))).setCell ⟨gb195, 1, none⟩ (.int .i64 ((rd_T52 l0 x10_1).f1))).setCell ⟨gb195, 2, none⟩ (.int .i64 ((rd_T52 l0 x10_1).f2))).setCell ⟨gb195, 3, none⟩ (.int .i64 ((rd_T52 l0 x10_1).f3))).setCell ⟨gb195, 4, none⟩ (.slice A194_4 ((rd_T52 l0 x10_1).f4).length c194_4)) w.heap.size (fun k_ => some k_ ≠ (.slice Ao12 x4_1.length co12 : Value).ownBlock) (.slice Ao13 x5_1.length co13) x5_1) := ⟨by (with_reducible repeat (first | apply Kd.R_alloc | apply Kd.R_drewN | apply Kd.R_drew)); exact Kd.R_mono (Kd.R_far (p := ⟨gb195, 4, none⟩) (Kd.R_far (p := ⟨gb195, 3, none⟩) (Kd.R_far (p := ⟨gb195, 2, none⟩) (Kd.R_far (p := ⟨gb195, 1, none⟩) (Kd.R_far (p := ⟨gb195, 0, none⟩) (Kd.R_types HO_5.out BK195.out (by decide)) (fun _ hk => hk.2) (.int .i64 ((rd_T52 l0 x10_1).f0))) (fun _ hk => hk.2) (.int .i64 ((rd_T52 l0 x10_1).f1))) (fun _ hk => hk.2) (.int .i64 ((rd_T52 l0 x10_1).f2))) (fun _ hk => hk.2) (.int .i64 ((rd_T52 l0 x10_1).f3))) (fun _ hk => hk.2) (.slice A194_4 ((rd_T52 l0 x10_1).f4).length c194_4)) (fun _ hk => hk.1)⟩
                    have n2_ : Aside0 ((((((w10.setCell ⟨gb195, 0, none⟩ (.int .i64 ((rd_T52 l0 x10_1).f0))).setCell ⟨gb195, 1, none⟩ (.int .i64 ((rd_T52 l0 x10_1).f1))).setCell ⟨gb195, 2, none⟩ (.int .i64 ((rd_T52 l0 x10_1).f2))).setCell ⟨gb195, 3, none⟩ (.int .i64 ((rd_T52 l0 x10_1).f3))).setCell ⟨gb195, 4, none⟩ (.slice A194_4 ((rd_T52 l0 x10_1).f4).length c194_4)).heap[gb195]? = some (.cells #[.int .i64 ((rd_T52 l0 x10_1).f0), .int .i64 ((rd_T52 l0 x10_1).f1), .int .i64 ((rd_T52 l0 x10_1).f2), .int .i64 ((rd_T52 l0 x10_1).f3), .slice A194_4 ((rd_T52 l0 x10_1).f4).length c194_4] 52 (0, 0))) := ⟨by (with_reducible repeat (first | refine blk_drewN ?_ _ | refine blk_drew ?_ | refine blk_alloc ?_ _)); refine blk_put (cs := #[.int .i64 ((rd_T52 l0 x10_1).f0), .int .i64 ((rd_T52 l0 x10_1).f1), .int .i64 ((rd_T52 l0 x10_1).f2), .int .i64 ((rd_T52 l0 x10_1).f3), .slice none 0 0]) ?_ 4 _ rfl; (with_reducible repeat (first | refine blk_drewN ?_ _ | refine blk_drew ?_ | refine blk_alloc ?_ _)); refine blk_put (cs := #[.int .i64 ((rd_T52 l0 x10_1).f0), .int .i64 ((rd_T52 l0 x10_1).f1), .int .i64 ((rd_T52 l0 x10_1).f2), .int .i64 0, .slice none 0 0]) ?_ 3 _ rfl; (with_reducible repeat (first | refine blk_drewN ?_ _ | refine blk_drew ?_ | refine blk_alloc ?_ _)); refine blk_put (cs := #[.int .i64 ((rd_T52 l0 x10_1).f0), .int .i64 ((rd_T52 l0 x10_1).f1), .int .i64 0, .int .i64 0, .slice none 0 0]) ?_ 2 _ rfl; (with_reducible repeat (first | refine blk_drewN ?_ _ | refine blk_drew ?_ | refine blk_alloc ?_ _)); refine blk_put (cs := #[.int .i64 ((rd_T52 l0 x10_1).f0), .int .i64 0, .int .i64 0, .int .i64 0, .slice none 0 0]) ?_ 1 _ rfl; (with_reducible repeat (first | refine blk_drewN ?_ _ | refine blk_drew ?_ | refine blk_alloc ?_ _)); refine blk_put (cs := #[.int .i64 0, .int .i64 0, .int .i64 0, .int .i64 0, .slice none 0 0]) ?_ 0 _ rfl; (with_reducible repeat (first | refine blk_drewN ?_ _ | refine blk_drew ?_ | refine blk_alloc ?_ _)); exact BK195.out⟩
                    have n3_ : Aside0 (Below w.heap.size w (((((w10.setCell ⟨gb195, 0, none⟩ (.int .i64 ((rd_T52 l0 x10_1).f0))).setCell ⟨gb195, 1, none⟩ (.int .i64 ((rd_T52 l0 x10_1).f1))).setCell ⟨gb195, 2, none⟩ (.int .i64 ((rd_T52 l0 x10_1).f2))).setCell ⟨gb195, 3, none⟩ (.int .i64 ((rd_T52 l0 x10_1).f3))).setCell ⟨gb195, 4, none⟩ (.slice A194_4 ((rd_T52 l0 x10_1).f4).length c194_4))) := ⟨by repeat (first | (with_reducible first | exact HB.out | apply below_alloc | apply pw_below_drewN | apply below_drew1 | refine below_set ?_ GE195.out) | exact HB.out)⟩
                    (try clear HO_4)
                    (try clear HO_5)
                    (try clear BK195)
                    (try clear HB)
                    generalize (((((w10.setCell ⟨gb195, 0, none⟩ (.int .i64 ((rd_T52 l0 x10_1).f0))).setCell ⟨gb195, 1, none⟩ (.int .i64 ((rd_T52 l0 x10_1).f1))).setCell ⟨gb195, 2, none⟩ (.int .i64 ((rd_T52 l0 x10_1).f2))).setCell ⟨gb195, 3, none⟩ (.int .i64 ((rd_T52 l0 x10_1).f3))).setCell ⟨gb195, 4, none⟩ (.slice A194_4 ((rd_T52 l0 x10_1).f4).length c194_4)) = w14 at n0_ n1_ n2_ n3_ ⊢
                    have HO_4 := n0_
                    have HO_5 := n1_
                    have BK195 := n2_
                    have HB := n3_
                    clear n0_ n1_ n2_ n3_
                    have n0_ := Aside0.mk (Kd.R_drew HO_4.out)
                    have n1_ := Aside0.mk (Kd.R_drew HO_5.out)
                    have n2_ := Aside0.mk (blk_drew BK195.out)
                    have n3_ := Aside0.mk (below_drew1 HB.out)
                    clear HO_4
                    clear HO_5
                    clear BK195
                    clear HB
                    have HO_4 := n0_
                    have HO_5 := n1_
                    have BK195 := n2_
                    have HB := n3_
                    clear n0_ n1_ n2_ n3_
                    have p202 : 0 ≤ (a1 : Int) := of_decide_eq_true (by first | (with_reducible assumption) | assumption)
                    have q202 : a1 < (((rd_T52 l0 x10_1).f4).length : Int) := of_decide_eq_true (by first | (with_reducible assumption) | assumption)
                    obtain ⟨ad202, e202, hx202_0⟩ := Kd.at_int HR194_4.out a1 p202 q202
                    have hw202_0 := hx202_0
                    cases e202
                    replace hx202_0 := (HB.out.cell (World.block_lt_of_cell? w _ hx202_0)).trans hx202_0
                    replace p202 := eq_true p202
                    replace q202 := eq_true q202
                    refine start_ (n := 16) (S := fun w' => w'.cell? ⟨gb195, 0, none⟩ = some (.int .i64 ((rd_T52 l0 x10_1).f0)) ∧ w'.cell? ⟨gb195, 1, none⟩ = some (.int .i64 ((rd_T52 l0 x10_1).f1)) ∧ w'.cell? ⟨gb195, 2, none⟩ = some (.int .i64 ((rd_T52 l0 x10_1).f2)) ∧ w'.cell? ⟨gb195, 3, none⟩ = some (.int .i64 ((rd_T52 l0 x10_1).f3)) ∧ w'.cell? ⟨gb195, 4, none⟩ = some (.slice (some ad202) ((rd_T52 l0 x10_1).f4).length c194_4) ∧ w'.cell? (ad202.add (a1).toNat) = some (.int .u8 (rd ((rd_T52 l0 x10_1).f4) a1))) (ds := []) #[false, false, false, false, false, false, false, false, false, false, false, false, false, false, false, false] (by kernel_rfl) rfl rfl ⟨(blk_cell BK195.out 0).trans rfl, (blk_cell BK195.out 1).trans rfl, (blk_cell BK195.out 2).trans rfl, (blk_cell BK195.out 3).trans rfl, (blk_cell BK195.out 4).trans rfl, ((HB.out.cell (World.block_lt_of_cell? w _ hw202_0)).trans hw202_0)⟩ (fun hHeld => ?_); refine with_tabW shares_points.tab4 shares_points.bits4 (fun HT_ HW_ => ?_)
                    generalize w14.drew = w15 at HO_4 HO_5 BK195 HB hx202_0 hHeld ⊢
                    refine pure_ (i := 0) (N := some 14) (v := ?_) (a' := ?_) #[true, false, false, false, false, false, false, false, false, false, false, false, false, false, false, false] rfl rfl (any_of HT_.out (by kernel_rfl)) (fun _ _ _ h => h) (Or.inl ⟨by rfl, ?_⟩) ?_ ?_
                    rotate_left
                    · intro w'
                      go_simp
                      with_reducible rfl
                    rotate_left
                    · simp only [Act.put, List.setIfInBounds_toArray, List.set_cons_zero, List.set_cons_succ, i64_w, i32_w]
                      rfl
                    refine pure_ (i := 1) (N := some 15) (v := ?_) (a' := ?_) #[true, true, false, false, false, false, false, false, false, false, false, false, false, false, false, false] rfl rfl (any_of HT_.out (by kernel_rfl)) (fun _ _ _ h => h) (Or.inl ⟨by rfl, ?_⟩) ?_ ?_
                    rotate_left
                    · intro w'
                      go_simp
                      with_reducible rfl
                    rotate_left
                    · simp only [Act.put, List.setIfInBounds_toArray, List.set_cons_zero, List.set_cons_succ, i64_w, i32_w]
                      rfl
                    refine pure_ (i := 6) (N := some 20) (v := ?_) (a' := ?_) #[true, true, false, false, false, false, true, false, false, false, false, false, false, false, false, false] rfl rfl (any_of HT_.out (by kernel_rfl)) (fun _ _ _ h => h) (Or.inl ⟨by rfl, ?_⟩) ?_ ?_
                    rotate_left
                    · intro w'
                      go_simp
                      with_reducible rfl
                    rotate_left
                    · simp only [Act.put, List.setIfInBounds_toArray, List.set_cons_zero, List.set_cons_succ, i64_w, i32_w]
                      rfl
                    refine pure_ (i := 7) (N := some 21) (v := ?_) (a' := ?_) #[true, true, false, false, false, false, true, true, false, false, false, false, false, false, false, false] rfl rfl (any_of HT_.out (by kernel_rfl)) (fun _ _ _ h => h) (Or.inl ⟨by rfl, ?_⟩) ?_ ?_
                    rotate_left
                    · intro w'
                      go_simp
                      with_reducible rfl
                    rotate_left
                    · simp only [Act.put, List.setIfInBounds_toArray, List.set_cons_zero, List.set_cons_succ, i64_w, i32_w]
                      rfl
                    refine pure_ (i := 9) (N := some 23) (v := ?_) (a' := ?_) #[true, true, false, false, false, false, true, true, false, true, false, false, false, false, false, false] rfl rfl (any_of HT_.out (by kernel_rfl)) (fun _ _ _ h => h) (Or.inl ⟨by rfl, ?_⟩) ?_ ?_
                    rotate_left
                    · intro w'
                      go_simp
                      with_reducible rfl
                    rotate_left
                    · simp only [Act.put, List.setIfInBounds_toArray, List.set_cons_zero, List.set_cons_succ, i64_w, i32_w]
                      rfl
                    refine take_ (i := 2) (N := some 16) (v := ?_) (a' := ?_) #[true, true, true, false, false, false, true, true, false, true, false, false, false, false, false, false] rfl rfl (take_ofW HT_.out HW_.out (by kernel_rfl)) (fun _ _ _ h => h) (Or.inl ⟨by rfl, ?_⟩) hHeld ?_ ?_
                    rotate_left
                    · rintro w' ⟨s0, s1, s2, s3, s4, s5⟩
                      go_simp
                      with_reducible rfl
                    rotate_left
                    · simp only [Act.put, List.setIfInBounds_toArray, List.set_cons_zero, List.set_cons_succ, i64_w, i32_w]
                      rfl
                    refine pure_ (i := 3) (N := some 17) (v := ?_) (a' := ?_) #[true, true, true, true, false, false, true, true, false, true, false, false, false, false, false, false] rfl rfl (any_of HT_.out (by kernel_rfl)) (fun _ _ _ h => h) (Or.inl ⟨by rfl, ?_⟩) ?_ ?_
                    rotate_left
                    · intro w'
                      go_simp
                      with_reducible rfl
                    rotate_left
                    · simp only [Act.put, List.setIfInBounds_toArray, List.set_cons_zero, List.set_cons_succ, i64_w, i32_w]
                      rfl
                    refine take_ (i := 8) (N := some 22) (v := ?_) (a' := ?_) #[true, true, true, true, false, false, true, true, true, true, false, false, false, false, false, false] rfl rfl (take_ofW HT_.out HW_.out (by kernel_rfl)) (fun _ _ _ h => h) (Or.inl ⟨by rfl, ?_⟩) hHeld ?_ ?_
                    rotate_left
                    · rintro w' ⟨s0, s1, s2, s3, s4, s5⟩
                      go_simp
                      with_reducible rfl
                    rotate_left
                    · simp only [Act.put, List.setIfInBounds_toArray, List.set_cons_zero, List.set_cons_succ, i64_w, i32_w]
                      rfl
                    refine pure_ (i := 10) (N := some 24) (v := ?_) (a' := ?_) #[true, true, true, true, false, false, true, true, true, true, true, false, false, false, false, false] rfl rfl (any_of HT_.out (by kernel_rfl)) (fun _ _ _ h => h) (Or.inl ⟨by rfl, ?_⟩) ?_ ?_
                    rotate_left
                    · intro w'
                      go_simp
                      with_reducible rfl
                    rotate_left
                    · simp only [Act.put, List.setIfInBounds_toArray, List.set_cons_zero, List.set_cons_succ, i64_w, i32_w]
                      rfl
                    refine take_ (i := 11) (N := some 25) (v := ?_) (a' := ?_) #[true, true, true, true, false, false, true, true, true, true, true, true, false, false, false, false] rfl rfl (take_ofW HT_.out HW_.out (by kernel_rfl)) (fun _ _ _ h => h) (Or.inl ⟨by rfl, ?_⟩) hHeld ?_ ?_
                    rotate_left
                    · rintro w' ⟨s0, s1, s2, s3, s4, s5⟩
                      go_simp
                      with_reducible rfl
                    rotate_left
                    · simp only [Act.put, List.setIfInBounds_toArray, List.set_cons_zero, List.set_cons_succ, i64_w, i32_w]
                      rfl
                    refine join_ (σ := Value × Value × Value) 3 #[true, true, true, true, true, true, true, true, true, true, true, true, true, false, false, false] (fun s_ => [(18, s_.1), (19, s_.2.1), (26, s_.2.2)]) (fun s_ w' => (w'.cell? ⟨gb195, 0, none⟩ = some (.int .i64 ((rd_T52 l0 x10_1).f0)) ∧ w'.cell? ⟨gb195, 1, none⟩ = some (.int .i64 ((rd_T52 l0 x10_1).f1)) ∧ w'.cell? ⟨gb195, 2, none⟩ = some (.int .i64 ((rd_T52 l0 x10_1).f2)) ∧ w'.cell? ⟨gb195, 3, none⟩ = some (.int .i64 ((rd_T52 l0 x10_1).f3)) ∧ w'.cell? ⟨gb195, 4, none⟩ = some (.slice (some ad202) ((rd_T52 l0 x10_1).f4).length c194_4) ∧ w'.cell? (ad202.add (a1).toNat) = some (.int .u8 (rd ((rd_T52 l0 x10_1).f4) a1))) ∧ (Kd.R (Kd.int .u8) 5 w' w.heap.size (fun k_ => some k_ ≠ (s_.2.1 : Value).ownBlock ∧ some k_ ≠ (s_.2.2 : Value).ownBlock ∧ some k_ ≠ (.slice Ao13 x5_1.length co13 : Value).ownBlock) s_.1 y196) ∧ (Kd.R (Kd.int .u8) 5 w' w.heap.size (fun k_ => some k_ ≠ (s_.1 : Value).ownBlock ∧ some k_ ≠ (s_.2.2 : Value).ownBlock ∧ some k_ ≠ (.slice Ao13 x5_1.length co13 : Value).ownBlock) s_.2.1 y199) ∧ (Kd.R (Kd.int .u8) 5 w' w.heap.size (fun k_ => some k_ ≠ (s_.1 : Value).ownBlock ∧ some k_ ≠ (s_.2.1 : Value).ownBlock ∧ some k_ ≠ (.slice Ao13 x5_1.length co13 : Value).ownBlock) s_.2.2 y203) ∧ (Kd.R (Kd.int .u8) 5 w' w.heap.size (fun k_ => some k_ ≠ (s_.1 : Value).ownBlock ∧ some k_ ≠ (s_.2.1 : Value).ownBlock ∧ some k_ ≠ (s_.2.2 : Value).ownBlock) (.slice Ao13 x5_1.length co13) x5_1) ∧ (w'.heap[gb195]? = some (.cells #[.int .i64 ((rd_T52 l0 x10_1).f0), .int .i64 ((rd_T52 l0 x10_1).f1), .int .i64 ((rd_T52 l0 x10_1).f2), .int .i64 ((rd_T52 l0 x10_1).f3), .slice (some ad202) ((rd_T52 l0 x10_1).f4).length c194_4] 52 (0, 0))) ∧ (Below w.heap.size w w')) ?_ ?_
                    rotate_left
                    · intro hCont
                      refine two_ (i := 4) (j := 12) (Ni := some 18) (Nj := some 26) #[true, true, true, true, true, false, true, true, true, true, true, true, false, false, false, false] #[true, true, true, true, false, false, true, true, true, true, true, true, true, false, false, false] rfl rfl rfl rfl (two_of HT_.out (by kernel_rfl)) (by decide) (by decide) (fun K hK => ?_) (fun K hK => ?_)
                      · skip
                        refine Kd.R_lit_step (Kd.int .u8) _ 5 ?hg (N := 18) ?hd (xs := ([((rd_T52 l0 x10_1).f1) % 256] : List Int)) (inner := [.int .u8 (((rd_T52 l0 x10_1).f1) % 256)]) (ok := fun _ => True) (okp := fun _ => True) ?hr ?hp (fun _ hk => hk) trivial (Below.refl _ _) (Nat.le_refl _) (by simp) ?_; (case hd => rfl); (case hg => rfl); (case hr => first | (go_simp; done) | (go_simp; rfl)); (case hp => exact (Reps.one (show Kd.M (Kd.int .u8) _ _ _ (((rd_T52 l0 x10_1).f1) % 256) [.int .u8 (((rd_T52 l0 x10_1).f1) % 256)] from rfl) (Reps.none _ _)))
                        intro v197 w16 ho17 hb hg_ hnew_
                        clear hg_ hnew_
                        (first | rw [← Ny196.out] at ho17 | (simp only [Int.reduceToNat] at ho17; rw [← Ny196.out] at ho17))
                        have n0_ := Aside0.mk (Kd.R_elder' (by (with_reducible repeat (first | apply Kd.R_alloc | apply Kd.R_drewN | apply Kd.R_drew)); exact HO_4.out) (Kd.R_base ho17) hb)
                        have n1_ := Aside0.mk (Kd.R_elder' (by (with_reducible repeat (first | apply Kd.R_alloc | apply Kd.R_drewN | apply Kd.R_drew)); exact HO_5.out) (Kd.R_base ho17) hb)
                        have n2_ := Aside0.mk (Kd.R_lower (Kd.R_new' (Kd.R_new' ho17 (Kd.R_lt (by (with_reducible repeat (first | apply Kd.R_alloc | apply Kd.R_drewN | apply Kd.R_drew)); exact HO_4.out))) (Kd.R_lt (by (with_reducible repeat (first | apply Kd.R_alloc | apply Kd.R_drewN | apply Kd.R_drew)); exact HO_5.out))) (below_size (by repeat (first | (with_reducible first | exact HB.out | apply below_alloc | apply pw_below_drewN | apply below_drew1 | refine below_set ?_ GE195.out) | exact HB.out))))
                        have n3_ := Aside0.mk (blk_below (g := gb195) (o := .cells #[.int .i64 ((rd_T52 l0 x10_1).f0), .int .i64 ((rd_T52 l0 x10_1).f1), .int .i64 ((rd_T52 l0 x10_1).f2), .int .i64 ((rd_T52 l0 x10_1).f3), .slice (some ad202) ((rd_T52 l0 x10_1).f4).length c194_4] 52 (0, 0)) (by (with_reducible repeat (first | refine blk_drewN ?_ _ | refine blk_drew ?_ | refine blk_alloc ?_ _)); exact BK195.out) hb)
                        have n4_ := Aside0.mk (below_step (by repeat (first | (with_reducible first | exact HB.out | apply below_alloc | apply pw_below_drewN | apply below_drew1 | refine below_set ?_ GE195.out) | exact HB.out)) hb)
                        clear HO_4
                        clear HO_5
                        clear BK195
                        clear HB
                        have HO_4 := n0_
                        have HO_5 := n1_
                        have HO198 := n2_
                        have BK195 := n3_
                        have HB := n4_
                        clear n0_ n1_ n2_ n3_ n4_
                        clear hb ho17
                        obtain ⟨Ao19, co19, eo19⟩ := Kd.R_slice HO198.out
                        (first | subst eo19 | (injection eo19 with f1_ f2_ f3_; have f4_ := f1_.symm; have f5_ := f3_.symm; clear f1_ f2_ f3_; subst f4_; subst f5_))
                        refine hK.out _ _ ⟨(blk_cell BK195.out 0).trans rfl, (blk_cell BK195.out 1).trans rfl, (blk_cell BK195.out 2).trans rfl, (blk_cell BK195.out 3).trans rfl, (blk_cell BK195.out 4).trans rfl, ((HB.out.cell (World.block_lt_of_cell? w _ hw202_0)).trans hw202_0)⟩ (fun hHeld => ?_)
                        clear hK K
                        refine norm_ (a' := ?_) ?_ ?_
                        rotate_left
                        · show Act.put _ (some 18) _ = _
                          simp only [Act.put, List.setIfInBounds_toArray, List.set_cons_zero, List.set_cons_succ, i64_w, i32_w]
                          rfl
                        refine two_ (i := 5) (j := 12) (Ni := some 19) (Nj := some 26) #[true, true, true, true, true, true, true, true, true, true, true, true, false, false, false, false] #[true, true, true, true, true, false, true, true, true, true, true, true, true, false, false, false] rfl rfl rfl rfl (two_of HT_.out (by kernel_rfl)) (by decide) (by decide) (fun K hK => ?_) (fun K hK => ?_)
                        · skip
                          refine Kd.R_append_rows_step (Kd.int .u8) (w0 := w) w.heap.size (by rfl) (.tmp 14) (.tmp 18) 30 5 (.int .u8 0) 1 rfl Try.underlying30 info5 rfl (by decide) (by omega) (.slice Ao12 x4_1.length co12) x4_1 y196 _ _ _ (fun k_ => some k_ ≠ (.slice Ao13 x5_1.length co13 : Value).ownBlock ∧ some k_ ≠ (.slice Ao19 y196.length co19 : Value).ownBlock) (fun _ => False) rfl rfl ?aO ?aR (fun _ _ h => h) (fun _ h => h.elim) ?aF ?aB ?aS ?aL ?_
                          (case aR => repeat (first | exact (Kd.R_reads' HO198.out).2.2 | (with_reducible refine Kd.C_alloc ?_ _) | (with_reducible refine Kd.C_drewN ?_ _) | (with_reducible refine Kd.C_drew ?_)))
                          (case aB => exact (by repeat (first | (with_reducible first | exact HB.out | apply below_alloc | apply pw_below_drewN | apply below_drew1 | refine below_set ?_ GE195.out) | exact HB.out)))
                          (case aF => exact (fun k_ hk => ⟨Kd.fresh' (Kd.R_lt (by (with_reducible repeat (first | apply Kd.R_alloc | apply Kd.R_drewN | apply Kd.R_drew)); exact HO_5.out)) k_ hk, Kd.fresh' (Kd.R_lt (by (with_reducible repeat (first | apply Kd.R_alloc | apply Kd.R_drewN | apply Kd.R_drew)); exact HO198.out)) k_ hk⟩))
                          (case aO => exact (by (with_reducible repeat (first | apply Kd.R_alloc | apply Kd.R_drewN | apply Kd.R_drew)); exact HO_4.out))
                          (case aS => exact (below_size (by repeat (first | (with_reducible first | exact HB.out | apply below_alloc | apply pw_below_drewN | apply below_drew1 | refine below_set ?_ GE195.out) | exact HB.out))))
                          (case aL => have := LMc6.out; omega)
                          intro v200 w18 ho hb hg hat
                          rw [← Ny199.out] at ho
                          have n0_ := Aside0.mk (Kd.R_after (ok := (fun k_ => some k_ ≠ (.slice Ao19 y196.length co19 : Value).ownBlock)) (by (with_reducible repeat (first | apply Kd.R_alloc | apply Kd.R_drewN | apply Kd.R_drew)); exact Kd.R_mono HO_5.out (fun _ hk => ⟨hk.2, hk.1⟩)) hg hat)
                          have n1_ := Aside0.mk (blk_grown (g := gb195) (o := .cells #[.int .i64 ((rd_T52 l0 x10_1).f0), .int .i64 ((rd_T52 l0 x10_1).f1), .int .i64 ((rd_T52 l0 x10_1).f2), .int .i64 ((rd_T52 l0 x10_1).f3), .slice (some ad202) ((rd_T52 l0 x10_1).f4).length c194_4] 52 (0, 0)) (by (with_reducible repeat (first | refine blk_drewN ?_ _ | refine blk_drew ?_ | refine blk_alloc ?_ _)); exact BK195.out) hg (Kd.R_ne HO_4.out BK195.out (by decide)))
                          have n2_ := Aside0.mk (Kd.R_after (ok := (fun k_ => some k_ ≠ (.slice Ao13 x5_1.length co13 : Value).ownBlock)) (by (with_reducible repeat (first | apply Kd.R_alloc | apply Kd.R_drewN | apply Kd.R_drew)); exact Kd.R_mono HO198.out (fun _ hk => ⟨hk.2, hk.1.2⟩)) hg hat)
                          have n3_ := Aside0.mk (hb)
                          have n4_ := Aside0.mk (ho)
                          clear HO_5
                          clear BK195
                          clear HO198
                          clear HB
                          clear HO_4
                          have HO_5 := n0_
                          have BK195 := n1_
                          have HO198 := n2_
                          have HB := n3_
                          have HO201 := n4_
                          clear n0_ n1_ n2_ n3_ n4_
                          clear ho hb hg hat
                          refine hK.out _ _ ⟨(blk_cell BK195.out 0).trans rfl, (blk_cell BK195.out 1).trans rfl, (blk_cell BK195.out 2).trans rfl, (blk_cell BK195.out 3).trans rfl, (blk_cell BK195.out 4).trans rfl, ((HB.out.cell (World.block_lt_of_cell? w _ hw202_0)).trans hw202_0)⟩ (fun hHeld => ?_)
                          clear hK K
                          refine norm_ (a' := ?_) ?_ ?_
                          rotate_left
                          · show Act.put _ (some 19) _ = _
                            simp only [Act.put, List.setIfInBounds_toArray, List.set_cons_zero, List.set_cons_succ, i64_w, i32_w]
                            rfl
                          refine one_ (i := 12) (N := some 26) #[true, true, true, true, true, true, true, true, true, true, true, true, true, false, false, false] rfl rfl (one_of HT_.out (by kernel_rfl)) (by decide) (fun K hK => ?_)
                          refine Kd.R_lit_step (Kd.int .u8) _ 5 ?hg (N := 26) ?hd (xs := ([rd ((rd_T52 l0 x10_1).f4) a1] : List Int)) (inner := [.int .u8 (rd ((rd_T52 l0 x10_1).f4) a1)]) (ok := fun _ => True) (okp := fun _ => True) ?hr ?hp (fun _ hk => hk) trivial (Below.refl _ _) (Nat.le_refl _) (by simp) ?_; (case hd => rfl); (case hg => rfl); (case hr => first | (go_simp; done) | (go_simp; rfl)); (case hp => exact (Reps.one (show Kd.M (Kd.int .u8) _ _ _ (rd ((rd_T52 l0 x10_1).f4) a1) [.int .u8 (rd ((rd_T52 l0 x10_1).f4) a1)] from rfl) (Reps.none _ _)))
                          intro v204 w20 ho21 hb hg_ hnew_
                          clear hg_ hnew_
                          (first | rw [← Ny203.out] at ho21 | (simp only [Int.reduceToNat] at ho21; rw [← Ny203.out] at ho21))
                          have n0_ := Aside0.mk (Kd.R_elder' (by (with_reducible repeat (first | apply Kd.R_alloc | apply Kd.R_drewN | apply Kd.R_drew)); exact HO_5.out) (Kd.R_base ho21) hb)
                          have n1_ := Aside0.mk (Kd.R_elder' (by (with_reducible repeat (first | apply Kd.R_alloc | apply Kd.R_drewN | apply Kd.R_drew)); exact HO198.out) (Kd.R_base ho21) hb)
                          have n2_ := Aside0.mk (Kd.R_elder' (by (with_reducible repeat (first | apply Kd.R_alloc | apply Kd.R_drewN | apply Kd.R_drew)); exact HO201.out) (Kd.R_base ho21) hb)
                          have n3_ := Aside0.mk (Kd.R_lower (Kd.R_new' (Kd.R_new' (Kd.R_new' ho21 (Kd.R_lt (by (with_reducible repeat (first | apply Kd.R_alloc | apply Kd.R_drewN | apply Kd.R_drew)); exact HO_5.out))) (Kd.R_lt (by (with_reducible repeat (first | apply Kd.R_alloc | apply Kd.R_drewN | apply Kd.R_drew)); exact HO198.out))) (Kd.R_lt (by (with_reducible repeat (first | apply Kd.R_alloc | apply Kd.R_drewN | apply Kd.R_drew)); exact HO201.out))) (below_size (by repeat (first | (with_reducible first | exact HB.out | apply below_alloc | apply pw_below_drewN | apply below_drew1 | refine below_set ?_ GE195.out) | exact HB.out))))
                          have n4_ := Aside0.mk (blk_below (g := gb195) (o := .cells #[.int .i64 ((rd_T52 l0 x10_1).f0), .int .i64 ((rd_T52 l0 x10_1).f1), .int .i64 ((rd_T52 l0 x10_1).f2), .int .i64 ((rd_T52 l0 x10_1).f3), .slice (some ad202) ((rd_T52 l0 x10_1).f4).length c194_4] 52 (0, 0)) (by (with_reducible repeat (first | refine blk_drewN ?_ _ | refine blk_drew ?_ | refine blk_alloc ?_ _)); exact BK195.out) hb)
                          have n5_ := Aside0.mk (below_step (by repeat (first | (with_reducible first | exact HB.out | apply below_alloc | apply pw_below_drewN | apply below_drew1 | refine below_set ?_ GE195.out) | exact HB.out)) hb)
                          clear HO_5
                          clear HO198
                          clear HO201
                          clear BK195
                          clear HB
                          have HO_5 := n0_
                          have HO198 := n1_
                          have HO201 := n2_
                          have HO205 := n3_
                          have BK195 := n4_
                          have HB := n5_
                          clear n0_ n1_ n2_ n3_ n4_ n5_
                          clear hb ho21
                          refine hK.out _ _ ⟨(blk_cell BK195.out 0).trans rfl, (blk_cell BK195.out 1).trans rfl, (blk_cell BK195.out 2).trans rfl, (blk_cell BK195.out 3).trans rfl, (blk_cell BK195.out 4).trans rfl, ((HB.out.cell (World.block_lt_of_cell? w _ hw202_0)).trans hw202_0)⟩ (fun hHeld => ?_)
                          clear hK K
                          refine norm_ (a' := ?_) ?_ ?_
                          rotate_left
                          · show Act.put _ (some 26) _ = _
                            simp only [Act.put, List.setIfInBounds_toArray, List.set_cons_zero, List.set_cons_succ, i64_w, i32_w]
                            rfl
                          exact norm_ (by simp only [putAll, Act.put, List.setIfInBounds_toArray, List.set_cons_zero, List.set_cons_succ]) (hCont (.slice Ao19 y196.length co19, v200, v204) _ ⟨hHeld, (by (with_reducible repeat (first | apply Kd.R_alloc | apply Kd.R_drewN | apply Kd.R_drew)); exact Kd.R_mono HO198.out (fun _ hk => ⟨hk.1.2, ⟨hk.2, hk.1.1⟩⟩)), (by (with_reducible repeat (first | apply Kd.R_alloc | apply Kd.R_drewN | apply Kd.R_drew)); exact Kd.R_mono HO201.out (fun _ hk => ⟨hk.1.2, ⟨hk.2, hk.1.1⟩⟩)), (by (with_reducible repeat (first | apply Kd.R_alloc | apply Kd.R_drewN | apply Kd.R_drew)); exact Kd.R_mono HO205.out (fun _ hk => ⟨hk.1.2, ⟨hk.2, hk.1.1.2⟩⟩)), (by (with_reducible repeat (first | apply Kd.R_alloc | apply Kd.R_drewN | apply Kd.R_drew)); exact Kd.R_mono HO_5.out (fun _ hk => ⟨hk.1.1, ⟨hk.1.2, hk.2⟩⟩)), (by (with_reducible repeat (first | refine blk_drewN ?_ _ | refine blk_drew ?_ | refine blk_alloc ?_ _)); exact BK195.out), (by repeat (first | (with_reducible first | exact HB.out | apply below_alloc | apply pw_below_drewN | apply below_drew1 | refine below_set ?_ GE195.out) | exact HB.out))⟩)
                        · skip
                          refine Kd.R_lit_step (Kd.int .u8) _ 5 ?hg (N := 26) ?hd (xs := ([rd ((rd_T52 l0 x10_1).f4) a1] : List Int)) (inner := [.int .u8 (rd ((rd_T52 l0 x10_1).f4) a1)]) (ok := fun _ => True) (okp := fun _ => True) ?hr ?hp (fun _ hk => hk) trivial (Below.refl _ _) (Nat.le_refl _) (by simp) ?_; (case hd => rfl); (case hg => rfl); (case hr => first | (go_simp; done) | (go_simp; rfl)); (case hp => exact (Reps.one (show Kd.M (Kd.int .u8) _ _ _ (rd ((rd_T52 l0 x10_1).f4) a1) [.int .u8 (rd ((rd_T52 l0 x10_1).f4) a1)] from rfl) (Reps.none _ _)))
                          intro v204 w18 ho19 hb hg_ hnew_
                          clear hg_ hnew_
                          (first | rw [← Ny203.out] at ho19 | (simp only [Int.reduceToNat] at ho19; rw [← Ny203.out] at ho19))
                          have n0_ := Aside0.mk (Kd.R_elder' (by (with_reducible repeat (first | apply Kd.R_alloc | apply Kd.R_drewN | apply Kd.R_drew)); exact HO_4.out) (Kd.R_base ho19) hb)
                          have n1_ := Aside0.mk (Kd.R_elder' (by (with_reducible repeat (first | apply Kd.R_alloc | apply Kd.R_drewN | apply Kd.R_drew)); exact HO_5.out) (Kd.R_base ho19) hb)
                          have n2_ := Aside0.mk (Kd.R_elder' (by (with_reducible repeat (first | apply Kd.R_alloc | apply Kd.R_drewN | apply Kd.R_drew)); exact HO198.out) (Kd.R_base ho19) hb)
                          have n3_ := Aside0.mk (Kd.R_lower (Kd.R_new' (Kd.R_new' (Kd.R_new' ho19 (Kd.R_lt (by (with_reducible repeat (first | apply Kd.R_alloc | apply Kd.R_drewN | apply Kd.R_drew)); exact HO_4.out))) (Kd.R_lt (by (with_reducible repeat (first | apply Kd.R_alloc | apply Kd.R_drewN | apply Kd.R_drew)); exact HO_5.out))) (Kd.R_lt (by (with_reducible repeat (first | apply Kd.R_alloc | apply Kd.R_drewN | apply Kd.R_drew)); exact HO198.out))) (below_size (by repeat (first | (with_reducible first | exact HB.out | apply below_alloc | apply pw_below_drewN | apply below_drew1 | refine below_set ?_ GE195.out) | exact HB.out))))
                          have n4_ := Aside0.mk (blk_below (g := gb195) (o := .cells #[.int .i64 ((rd_T52 l0 x10_1).f0), .int .i64 ((rd_T52 l0 x10_1).f1), .int .i64 ((rd_T52 l0 x10_1).f2), .int .i64 ((rd_T52 l0 x10_1).f3), .slice (some ad202) ((rd_T52 l0 x10_1).f4).length c194_4] 52 (0, 0)) (by (with_reducible repeat (first | refine blk_drewN ?_ _ | refine blk_drew ?_ | refine blk_alloc ?_ _)); exact BK195.out) hb)
                          have n5_ := Aside0.mk (below_step (by repeat (first | (with_reducible first | exact HB.out | apply below_alloc | apply pw_below_drewN | apply below_drew1 | refine below_set ?_ GE195.out) | exact HB.out)) hb)
                          clear HO_4
                          clear HO_5
                          clear HO198
                          clear BK195
                          clear HB
                          have HO_4 := n0_
                          have HO_5 := n1_
                          have HO198 := n2_
                          have HO205 := n3_
                          have BK195 := n4_
                          have HB := n5_
                          clear n0_ n1_ n2_ n3_ n4_ n5_
                          clear hb ho19
                          obtain ⟨Ao21, co21, eo21⟩ := Kd.R_slice HO198.out
                          (first | subst eo21 | (injection eo21 with f1_ f2_ f3_; have f4_ := f1_.symm; have f5_ := f3_.symm; clear f1_ f2_ f3_; subst f4_; subst f5_))
                          refine hK.out _ _ ⟨(blk_cell BK195.out 0).trans rfl, (blk_cell BK195.out 1).trans rfl, (blk_cell BK195.out 2).trans rfl, (blk_cell BK195.out 3).trans rfl, (blk_cell BK195.out 4).trans rfl, ((HB.out.cell (World.block_lt_of_cell? w _ hw202_0)).trans hw202_0)⟩ (fun hHeld => ?_)
                          clear hK K
                          refine norm_ (a' := ?_) ?_ ?_
                          rotate_left
                          · show Act.put _ (some 26) _ = _
                            simp only [Act.put, List.setIfInBounds_toArray, List.set_cons_zero, List.set_cons_succ, i64_w, i32_w]
                            rfl
                          refine one_ (i := 5) (N := some 19) #[true, true, true, true, true, true, true, true, true, true, true, true, true, false, false, false] rfl rfl (one_of HT_.out (by kernel_rfl)) (by decide) (fun K hK => ?_)
                          refine Kd.R_append_rows_step (Kd.int .u8) (w0 := w) w.heap.size (by rfl) (.tmp 14) (.tmp 18) 30 5 (.int .u8 0) 1 rfl Try.underlying30 info5 rfl (by decide) (by omega) (.slice Ao12 x4_1.length co12) x4_1 y196 _ _ _ (fun k_ => some k_ ≠ (.slice Ao13 x5_1.length co13 : Value).ownBlock ∧ some k_ ≠ (.slice Ao21 y196.length co21 : Value).ownBlock ∧ some k_ ≠ (v204 : Value).ownBlock) (fun _ => False) rfl rfl ?aO ?aR (fun _ _ h => h) (fun _ h => h.elim) ?aF ?aB ?aS ?aL ?_
                          (case aR => repeat (first | exact (Kd.R_reads' HO198.out).2.2 | (with_reducible refine Kd.C_alloc ?_ _) | (with_reducible refine Kd.C_drewN ?_ _) | (with_reducible refine Kd.C_drew ?_)))
                          (case aB => exact (by repeat (first | (with_reducible first | exact HB.out | apply below_alloc | apply pw_below_drewN | apply below_drew1 | refine below_set ?_ GE195.out) | exact HB.out)))
                          (case aF => exact (fun k_ hk => ⟨Kd.fresh' (Kd.R_lt (by (with_reducible repeat (first | apply Kd.R_alloc | apply Kd.R_drewN | apply Kd.R_drew)); exact HO_5.out)) k_ hk, Kd.fresh' (Kd.R_lt (by (with_reducible repeat (first | apply Kd.R_alloc | apply Kd.R_drewN | apply Kd.R_drew)); exact HO198.out)) k_ hk, Kd.fresh' (Kd.R_lt (by (with_reducible repeat (first | apply Kd.R_alloc | apply Kd.R_drewN | apply Kd.R_drew)); exact HO205.out)) k_ hk⟩))
                          (case aO => exact (by (with_reducible repeat (first | apply Kd.R_alloc | apply Kd.R_drewN | apply Kd.R_drew)); exact Kd.R_mono HO_4.out (fun _ hk => ⟨hk.1.1, ⟨hk.1.2, hk.2⟩⟩)))
                          (case aS => exact (below_size (by repeat (first | (with_reducible first | exact HB.out | apply below_alloc | apply pw_below_drewN | apply below_drew1 | refine below_set ?_ GE195.out) | exact HB.out))))
                          (case aL => have := LMc6.out; omega)
                          intro v200 w20 ho hb hg hat
                          rw [← Ny199.out] at ho
                          have n0_ := Aside0.mk (Kd.R_after (ok := (fun k_ => some k_ ≠ (.slice Ao21 y196.length co21 : Value).ownBlock ∧ some k_ ≠ (v204 : Value).ownBlock)) (by (with_reducible repeat (first | apply Kd.R_alloc | apply Kd.R_drewN | apply Kd.R_drew)); exact Kd.R_mono HO_5.out (fun _ hk => ⟨⟨hk.1.2, hk.2⟩, hk.1.1⟩)) hg hat)
                          have n1_ := Aside0.mk (blk_grown (g := gb195) (o := .cells #[.int .i64 ((rd_T52 l0 x10_1).f0), .int .i64 ((rd_T52 l0 x10_1).f1), .int .i64 ((rd_T52 l0 x10_1).f2), .int .i64 ((rd_T52 l0 x10_1).f3), .slice (some ad202) ((rd_T52 l0 x10_1).f4).length c194_4] 52 (0, 0)) (by (with_reducible repeat (first | refine blk_drewN ?_ _ | refine blk_drew ?_ | refine blk_alloc ?_ _)); exact BK195.out) hg (Kd.R_ne HO_4.out BK195.out (by decide)))
                          have n2_ := Aside0.mk (Kd.R_after (ok := (fun k_ => some k_ ≠ (.slice Ao13 x5_1.length co13 : Value).ownBlock ∧ some k_ ≠ (v204 : Value).ownBlock)) (by (with_reducible repeat (first | apply Kd.R_alloc | apply Kd.R_drewN | apply Kd.R_drew)); exact Kd.R_mono HO198.out (fun _ hk => ⟨⟨hk.1.2, hk.2⟩, hk.1.1.2⟩)) hg hat)
                          have n3_ := Aside0.mk (Kd.R_after (ok := (fun k_ => some k_ ≠ (.slice Ao13 x5_1.length co13 : Value).ownBlock ∧ some k_ ≠ (.slice Ao21 y196.length co21 : Value).ownBlock)) (by (with_reducible repeat (first | apply Kd.R_alloc | apply Kd.R_drewN | apply Kd.R_drew)); exact Kd.R_mono HO205.out (fun _ hk => ⟨⟨hk.1.2, hk.2⟩, hk.1.1.2⟩)) hg hat)
                          have n4_ := Aside0.mk (hb)
                          have n5_ := Aside0.mk (ho)
                          clear HO_5
                          clear BK195
                          clear HO198
                          clear HO205
                          clear HB
                          clear HO_4
                          have HO_5 := n0_
                          have BK195 := n1_
                          have HO198 := n2_
                          have HO205 := n3_
                          have HB := n4_
                          have HO201 := n5_
                          clear n0_ n1_ n2_ n3_ n4_ n5_
                          clear ho hb hg hat
                          refine hK.out _ _ ⟨(blk_cell BK195.out 0).trans rfl, (blk_cell BK195.out 1).trans rfl, (blk_cell BK195.out 2).trans rfl, (blk_cell BK195.out 3).trans rfl, (blk_cell BK195.out 4).trans rfl, ((HB.out.cell (World.block_lt_of_cell? w _ hw202_0)).trans hw202_0)⟩ (fun hHeld => ?_)
                          clear hK K
                          refine norm_ (a' := ?_) ?_ ?_
                          rotate_left
                          · show Act.put _ (some 19) _ = _
                            simp only [Act.put, List.setIfInBounds_toArray, List.set_cons_zero, List.set_cons_succ, i64_w, i32_w]
                            rfl
                          exact norm_ (by simp only [putAll, Act.put, List.setIfInBounds_toArray, List.set_cons_zero, List.set_cons_succ]) (hCont (.slice Ao21 y196.length co21, v200, v204) _ ⟨hHeld, (by (with_reducible repeat (first | apply Kd.R_alloc | apply Kd.R_drewN | apply Kd.R_drew)); exact Kd.R_mono HO198.out (fun _ hk => ⟨hk.2, ⟨hk.1.2, hk.1.1⟩⟩)), (by (with_reducible repeat (first | apply Kd.R_alloc | apply Kd.R_drewN | apply Kd.R_drew)); exact Kd.R_mono HO201.out (fun _ hk => ⟨hk.2.1, ⟨hk.2.2, hk.1⟩⟩)), (by (with_reducible repeat (first | apply Kd.R_alloc | apply Kd.R_drewN | apply Kd.R_drew)); exact Kd.R_mono HO205.out (fun _ hk => ⟨hk.1.2, ⟨hk.2, hk.1.1⟩⟩)), (by (with_reducible repeat (first | apply Kd.R_alloc | apply Kd.R_drewN | apply Kd.R_drew)); exact Kd.R_mono HO_5.out (fun _ hk => ⟨hk.1.1, ⟨hk.2, hk.1.2⟩⟩)), (by (with_reducible repeat (first | refine blk_drewN ?_ _ | refine blk_drew ?_ | refine blk_alloc ?_ _)); exact BK195.out), (by repeat (first | (with_reducible first | exact HB.out | apply below_alloc | apply pw_below_drewN | apply below_drew1 | refine below_set ?_ GE195.out) | exact HB.out))⟩)
                      · skip
                        refine Kd.R_lit_step (Kd.int .u8) _ 5 ?hg (N := 26) ?hd (xs := ([rd ((rd_T52 l0 x10_1).f4) a1] : List Int)) (inner := [.int .u8 (rd ((rd_T52 l0 x10_1).f4) a1)]) (ok := fun _ => True) (okp := fun _ => True) ?hr ?hp (fun _ hk => hk) trivial (Below.refl _ _) (Nat.le_refl _) (by simp) ?_; (case hd => rfl); (case hg => rfl); (case hr => first | (go_simp; done) | (go_simp; rfl)); (case hp => exact (Reps.one (show Kd.M (Kd.int .u8) _ _ _ (rd ((rd_T52 l0 x10_1).f4) a1) [.int .u8 (rd ((rd_T52 l0 x10_1).f4) a1)] from rfl) (Reps.none _ _)))
                        intro v204 w16 ho17 hb hg_ hnew_
                        clear hg_ hnew_
                        (first | rw [← Ny203.out] at ho17 | (simp only [Int.reduceToNat] at ho17; rw [← Ny203.out] at ho17))
                        have n0_ := Aside0.mk (Kd.R_elder' (by (with_reducible repeat (first | apply Kd.R_alloc | apply Kd.R_drewN | apply Kd.R_drew)); exact HO_4.out) (Kd.R_base ho17) hb)
                        have n1_ := Aside0.mk (Kd.R_elder' (by (with_reducible repeat (first | apply Kd.R_alloc | apply Kd.R_drewN | apply Kd.R_drew)); exact HO_5.out) (Kd.R_base ho17) hb)
                        have n2_ := Aside0.mk (Kd.R_lower (Kd.R_new' (Kd.R_new' ho17 (Kd.R_lt (by (with_reducible repeat (first | apply Kd.R_alloc | apply Kd.R_drewN | apply Kd.R_drew)); exact HO_4.out))) (Kd.R_lt (by (with_reducible repeat (first | apply Kd.R_alloc | apply Kd.R_drewN | apply Kd.R_drew)); exact HO_5.out))) (below_size (by repeat (first | (with_reducible first | exact HB.out | apply below_alloc | apply pw_below_drewN | apply below_drew1 | refine below_set ?_ GE195.out) | exact HB.out))))
                        have n3_ := Aside0.mk (blk_below (g := gb195) (o := .cells #[.int .i64 ((rd_T52 l0 x10_1).f0), .int .i64 ((rd_T52 l0 x10_1).f1), .int .i64 ((rd_T52 l0 x10_1).f2), .int .i64 ((rd_T52 l0 x10_1).f3), .slice (some ad202) ((rd_T52 l0 x10_1).f4).length c194_4] 52 (0, 0)) (by (with_reducible repeat (first | refine blk_drewN ?_ _ | refine blk_drew ?_ | refine blk_alloc ?_ _)); exact BK195.out) hb)
                        have n4_ := Aside0.mk (below_step (by repeat (first | (with_reducible first | exact HB.out | apply below_alloc | apply pw_below_drewN | apply below_drew1 | refine below_set ?_ GE195.out) | exact HB.out)) hb)
                        clear HO_4
                        clear HO_5
                        clear BK195
                        clear HB
                        have HO_4 := n0_
                        have HO_5 := n1_
                        have HO205 := n2_
                        have BK195 := n3_
                        have HB := n4_
                        clear n0_ n1_ n2_ n3_ n4_
                        clear hb ho17
                        refine hK.out _ _ ⟨(blk_cell BK195.out 0).trans rfl, (blk_cell BK195.out 1).trans rfl, (blk_cell BK195.out 2).trans rfl, (blk_cell BK195.out 3).trans rfl, (blk_cell BK195.out 4).trans rfl, ((HB.out.cell (World.block_lt_of_cell? w _ hw202_0)).trans hw202_0)⟩ (fun hHeld => ?_)
                        clear hK K
                        refine norm_ (a' := ?_) ?_ ?_
                        rotate_left
                        · show Act.put _ (some 26) _ = _
                          simp only [Act.put, List.setIfInBounds_toArray, List.set_cons_zero, List.set_cons_succ, i64_w, i32_w]
                          rfl
                        refine one_ (i := 4) (N := some 18) #[true, true, true, true, true, false, true, true, true, true, true, true, true, false, false, false] rfl rfl (one_of HT_.out (by kernel_rfl)) (by decide) (fun K hK => ?_)
                        refine Kd.R_lit_step (Kd.int .u8) _ 5 ?hg (N := 18) ?hd (xs := ([((rd_T52 l0 x10_1).f1) % 256] : List Int)) (inner := [.int .u8 (((rd_T52 l0 x10_1).f1) % 256)]) (ok := fun _ => True) (okp := fun _ => True) ?hr ?hp (fun _ hk => hk) trivial (Below.refl _ _) (Nat.le_refl _) (by simp) ?_; (case hd => rfl); (case hg => rfl); (case hr => first | (go_simp; done) | (go_simp; rfl)); (case hp => exact (Reps.one (show Kd.M (Kd.int .u8) _ _ _ (((rd_T52 l0 x10_1).f1) % 256) [.int .u8 (((rd_T52 l0 x10_1).f1) % 256)] from rfl) (Reps.none _ _)))
                        intro v197 w18 ho19 hb hg_ hnew_
                        clear hg_ hnew_
                        (first | rw [← Ny196.out] at ho19 | (simp only [Int.reduceToNat] at ho19; rw [← Ny196.out] at ho19))
                        have n0_ := Aside0.mk (Kd.R_elder' (by (with_reducible repeat (first | apply Kd.R_alloc | apply Kd.R_drewN | apply Kd.R_drew)); exact HO_4.out) (Kd.R_base ho19) hb)
                        have n1_ := Aside0.mk (Kd.R_elder' (by (with_reducible repeat (first | apply Kd.R_alloc | apply Kd.R_drewN | apply Kd.R_drew)); exact HO_5.out) (Kd.R_base ho19) hb)
                        have n2_ := Aside0.mk (Kd.R_elder' (by (with_reducible repeat (first | apply Kd.R_alloc | apply Kd.R_drewN | apply Kd.R_drew)); exact HO205.out) (Kd.R_base ho19) hb)
                        have n3_ := Aside0.mk (Kd.R_lower (Kd.R_new' (Kd.R_new' (Kd.R_new' ho19 (Kd.R_lt (by (with_reducible repeat (first | apply Kd.R_alloc | apply Kd.R_drewN | apply Kd.R_drew)); exact HO_4.out))) (Kd.R_lt (by (with_reducible repeat (first | apply Kd.R_alloc | apply Kd.R_drewN | apply Kd.R_drew)); exact HO_5.out))) (Kd.R_lt (by (with_reducible repeat (first | apply Kd.R_alloc | apply Kd.R_drewN | apply Kd.R_drew)); exact HO205.out))) (below_size (by repeat (first | (with_reducible first | exact HB.out | apply below_alloc | apply pw_below_drewN | apply below_drew1 | refine below_set ?_ GE195.out) | exact HB.out))))
                        have n4_ := Aside0.mk (blk_below (g := gb195) (o := .cells #[.int .i64 ((rd_T52 l0 x10_1).f0), .int .i64 ((rd_T52 l0 x10_1).f1), .int .i64 ((rd_T52 l0 x10_1).f2), .int .i64 ((rd_T52 l0 x10_1).f3), .slice (some ad202) ((rd_T52 l0 x10_1).f4).length c194_4] 52 (0, 0)) (by (with_reducible repeat (first | refine blk_drewN ?_ _ | refine blk_drew ?_ | refine blk_alloc ?_ _)); exact BK195.out) hb)
                        have n5_ := Aside0.mk (below_step (by repeat (first | (with_reducible first | exact HB.out | apply below_alloc | apply pw_below_drewN | apply below_drew1 | refine below_set ?_ GE195.out) | exact HB.out)) hb)
                        clear HO_4
                        clear HO_5
                        clear HO205
                        clear BK195
                        clear HB
                        have HO_4 := n0_
                        have HO_5 := n1_
                        have HO205 := n2_
                        have HO198 := n3_
                        have BK195 := n4_
                        have HB := n5_
                        clear n0_ n1_ n2_ n3_ n4_ n5_
                        clear hb ho19
                        obtain ⟨Ao21, co21, eo21⟩ := Kd.R_slice HO198.out
                        (first | subst eo21 | (injection eo21 with f1_ f2_ f3_; have f4_ := f1_.symm; have f5_ := f3_.symm; clear f1_ f2_ f3_; subst f4_; subst f5_))
                        refine hK.out _ _ ⟨(blk_cell BK195.out 0).trans rfl, (blk_cell BK195.out 1).trans rfl, (blk_cell BK195.out 2).trans rfl, (blk_cell BK195.out 3).trans rfl, (blk_cell BK195.out 4).trans rfl, ((HB.out.cell (World.block_lt_of_cell? w _ hw202_0)).trans hw202_0)⟩ (fun hHeld => ?_)
                        clear hK K
                        refine norm_ (a' := ?_) ?_ ?_
                        rotate_left
                        · show Act.put _ (some 18) _ = _
                          simp only [Act.put, List.setIfInBounds_toArray, List.set_cons_zero, List.set_cons_succ, i64_w, i32_w]
                          rfl
                        refine one_ (i := 5) (N := some 19) #[true, true, true, true, true, true, true, true, true, true, true, true, true, false, false, false] rfl rfl (one_of HT_.out (by kernel_rfl)) (by decide) (fun K hK => ?_)
                        refine Kd.R_append_rows_step (Kd.int .u8) (w0 := w) w.heap.size (by rfl) (.tmp 14) (.tmp 18) 30 5 (.int .u8 0) 1 rfl Try.underlying30 info5 rfl (by decide) (by omega) (.slice Ao12 x4_1.length co12) x4_1 y196 _ _ _ (fun k_ => some k_ ≠ (.slice Ao13 x5_1.length co13 : Value).ownBlock ∧ some k_ ≠ (v204 : Value).ownBlock ∧ some k_ ≠ (.slice Ao21 y196.length co21 : Value).ownBlock) (fun _ => False) rfl rfl ?aO ?aR (fun _ _ h => h) (fun _ h => h.elim) ?aF ?aB ?aS ?aL ?_
                        (case aR => repeat (first | exact (Kd.R_reads' HO198.out).2.2 | (with_reducible refine Kd.C_alloc ?_ _) | (with_reducible refine Kd.C_drewN ?_ _) | (with_reducible refine Kd.C_drew ?_)))
                        (case aB => exact (by repeat (first | (with_reducible first | exact HB.out | apply below_alloc | apply pw_below_drewN | apply below_drew1 | refine below_set ?_ GE195.out) | exact HB.out)))
                        (case aF => exact (fun k_ hk => ⟨Kd.fresh' (Kd.R_lt (by (with_reducible repeat (first | apply Kd.R_alloc | apply Kd.R_drewN | apply Kd.R_drew)); exact HO_5.out)) k_ hk, Kd.fresh' (Kd.R_lt (by (with_reducible repeat (first | apply Kd.R_alloc | apply Kd.R_drewN | apply Kd.R_drew)); exact HO205.out)) k_ hk, Kd.fresh' (Kd.R_lt (by (with_reducible repeat (first | apply Kd.R_alloc | apply Kd.R_drewN | apply Kd.R_drew)); exact HO198.out)) k_ hk⟩))
                        (case aO => exact (by (with_reducible repeat (first | apply Kd.R_alloc | apply Kd.R_drewN | apply Kd.R_drew)); exact Kd.R_mono HO_4.out (fun _ hk => ⟨hk.1.1, ⟨hk.1.2, hk.2⟩⟩)))
                        (case aS => exact (below_size (by repeat (first | (with_reducible first | exact HB.out | apply below_alloc | apply pw_below_drewN | apply below_drew1 | refine below_set ?_ GE195.out) | exact HB.out))))
                        (case aL => have := LMc6.out; omega)
                        intro v200 w20 ho hb hg hat
                        rw [← Ny199.out] at ho
                        have n0_ := Aside0.mk (Kd.R_after (ok := (fun k_ => some k_ ≠ (v204 : Value).ownBlock ∧ some k_ ≠ (.slice Ao21 y196.length co21 : Value).ownBlock)) (by (with_reducible repeat (first | apply Kd.R_alloc | apply Kd.R_drewN | apply Kd.R_drew)); exact Kd.R_mono HO_5.out (fun _ hk => ⟨⟨hk.1.2, hk.2⟩, hk.1.1⟩)) hg hat)
                        have n1_ := Aside0.mk (blk_grown (g := gb195) (o := .cells #[.int .i64 ((rd_T52 l0 x10_1).f0), .int .i64 ((rd_T52 l0 x10_1).f1), .int .i64 ((rd_T52 l0 x10_1).f2), .int .i64 ((rd_T52 l0 x10_1).f3), .slice (some ad202) ((rd_T52 l0 x10_1).f4).length c194_4] 52 (0, 0)) (by (with_reducible repeat (first | refine blk_drewN ?_ _ | refine blk_drew ?_ | refine blk_alloc ?_ _)); exact BK195.out) hg (Kd.R_ne HO_4.out BK195.out (by decide)))
                        have n2_ := Aside0.mk (Kd.R_after (ok := (fun k_ => some k_ ≠ (.slice Ao13 x5_1.length co13 : Value).ownBlock ∧ some k_ ≠ (.slice Ao21 y196.length co21 : Value).ownBlock)) (by (with_reducible repeat (first | apply Kd.R_alloc | apply Kd.R_drewN | apply Kd.R_drew)); exact Kd.R_mono HO205.out (fun _ hk => ⟨⟨hk.1.2, hk.2⟩, hk.1.1.2⟩)) hg hat)
                        have n3_ := Aside0.mk (Kd.R_after (ok := (fun k_ => some k_ ≠ (.slice Ao13 x5_1.length co13 : Value).ownBlock ∧ some k_ ≠ (v204 : Value).ownBlock)) (by (with_reducible repeat (first | apply Kd.R_alloc | apply Kd.R_drewN | apply Kd.R_drew)); exact Kd.R_mono HO198.out (fun _ hk => ⟨⟨hk.1.2, hk.2⟩, hk.1.1.2⟩)) hg hat)
                        have n4_ := Aside0.mk (hb)
                        have n5_ := Aside0.mk (ho)
                        clear HO_5
                        clear BK195
                        clear HO205
                        clear HO198
                        clear HB
                        clear HO_4
                        have HO_5 := n0_
                        have BK195 := n1_
                        have HO205 := n2_
                        have HO198 := n3_
                        have HB := n4_
                        have HO201 := n5_
                        clear n0_ n1_ n2_ n3_ n4_ n5_
                        clear ho hb hg hat
                        refine hK.out _ _ ⟨(blk_cell BK195.out 0).trans rfl, (blk_cell BK195.out 1).trans rfl, (blk_cell BK195.out 2).trans rfl, (blk_cell BK195.out 3).trans rfl, (blk_cell BK195.out 4).trans rfl, ((HB.out.cell (World.block_lt_of_cell? w _ hw202_0)).trans hw202_0)⟩ (fun hHeld => ?_)
                        clear hK K
                        refine norm_ (a' := ?_) ?_ ?_
                        rotate_left
                        · show Act.put _ (some 19) _ = _
                          simp only [Act.put, List.setIfInBounds_toArray, List.set_cons_zero, List.set_cons_succ, i64_w, i32_w]
                          rfl
                        exact norm_ (by simp only [putAll, Act.put, List.setIfInBounds_toArray, List.set_cons_zero, List.set_cons_succ]) (hCont (.slice Ao21 y196.length co21, v200, v204) _ ⟨hHeld, (by (with_reducible repeat (first | apply Kd.R_alloc | apply Kd.R_drewN | apply Kd.R_drew)); exact Kd.R_mono HO198.out (fun _ hk => ⟨hk.2, ⟨hk.1.2, hk.1.1⟩⟩)), (by (with_reducible repeat (first | apply Kd.R_alloc | apply Kd.R_drewN | apply Kd.R_drew)); exact Kd.R_mono HO201.out (fun _ hk => ⟨hk.2.2, ⟨hk.2.1, hk.1⟩⟩)), (by (with_reducible repeat (first | apply Kd.R_alloc | apply Kd.R_drewN | apply Kd.R_drew)); exact Kd.R_mono HO205.out (fun _ hk => ⟨hk.1.2, ⟨hk.2, hk.1.1⟩⟩)), (by (with_reducible repeat (first | apply Kd.R_alloc | apply Kd.R_drewN | apply Kd.R_drew)); exact Kd.R_mono HO_5.out (fun _ hk => ⟨hk.1.2, ⟨hk.2, hk.1.1⟩⟩)), (by (with_reducible repeat (first | refine blk_drewN ?_ _ | refine blk_drew ?_ | refine blk_alloc ?_ _)); exact BK195.out), (by repeat (first | (with_reducible first | exact HB.out | apply below_alloc | apply pw_below_drewN | apply below_drew1 | refine below_set ?_ GE195.out) | exact HB.out))⟩)
                    rintro ⟨v197, v200, v204⟩ w22 ⟨hS_, h0_, h1_, h2_, h3_, h4_, h5_⟩
                    have n0_ : Aside0 (Kd.R (Kd.int .u8) 5 w22 w.heap.size (fun k_ => some k_ ≠ (v200 : Value).ownBlock ∧ some k_ ≠ (v204 : Value).ownBlock ∧ some k_ ≠ (.slice Ao13 x5_1.length co13 : Value).ownBlock) v197 y196) := ⟨h0_⟩
                    have n1_ : Aside0 (Kd.R (Kd.int .u8) 5 w22 w.heap.size (fun k_ => some k_ ≠ (v197 : Value).ownBlock ∧ some k_ ≠ (v204 : Value).ownBlock ∧ some k_ ≠ (.slice Ao13 x5_1.length co13 : Value).ownBlock) v200 y199) := ⟨h1_⟩
                    have n2_ : Aside0 (Kd.R (Kd.int .u8) 5 w22 w.heap.size (fun k_ => some k_ ≠ (v197 : Value).ownBlock ∧ some k_ ≠ (v200 : Value).ownBlock ∧ some k_ ≠ (.slice Ao13 x5_1.length co13 : Value).ownBlock) v204 y203) := ⟨h2_⟩
                    have n3_ : Aside0 (Kd.R (Kd.int .u8) 5 w22 w.heap.size (fun k_ => some k_ ≠ (v197 : Value).ownBlock ∧ some k_ ≠ (v200 : Value).ownBlock ∧ some k_ ≠ (v204 : Value).ownBlock) (.slice Ao13 x5_1.length co13) x5_1) := ⟨h3_⟩
                    have n4_ : Aside0 (w22.heap[gb195]? = some (.cells #[.int .i64 ((rd_T52 l0 x10_1).f0), .int .i64 ((rd_T52 l0 x10_1).f1), .int .i64 ((rd_T52 l0 x10_1).f2), .int .i64 ((rd_T52 l0 x10_1).f3), .slice (some ad202) ((rd_T52 l0 x10_1).f4).length c194_4] 52 (0, 0))) := ⟨h4_⟩
                    have n5_ : Aside0 (Below w.heap.size w w22) := ⟨h5_⟩
                    clear HO_4
                    clear HO_5
                    clear BK195
                    clear HB
                    clear h0_ h1_ h2_ h3_ h4_ h5_
                    have HO198 := n0_
                    have HO201 := n1_
                    have HO205 := n2_
                    have HO_5 := n3_
                    have BK195 := n4_
                    have HB := n5_
                    clear n0_ n1_ n2_ n3_ n4_ n5_
                    have hHeld : w22.cell? ⟨gb195, 0, none⟩ = some (.int .i64 ((rd_T52 l0 x10_1).f0)) ∧ w22.cell? ⟨gb195, 1, none⟩ = some (.int .i64 ((rd_T52 l0 x10_1).f1)) ∧ w22.cell? ⟨gb195, 2, none⟩ = some (.int .i64 ((rd_T52 l0 x10_1).f2)) ∧ w22.cell? ⟨gb195, 3, none⟩ = some (.int .i64 ((rd_T52 l0 x10_1).f3)) ∧ w22.cell? ⟨gb195, 4, none⟩ = some (.slice (some ad202) ((rd_T52 l0 x10_1).f4).length c194_4) ∧ w22.cell? (ad202.add (a1).toNat) = some (.int .u8 (rd ((rd_T52 l0 x10_1).f4) a1)) := hS_
                    obtain ⟨Ao24, co24, eo24⟩ := Kd.R_slice HO205.out
                    (first | subst eo24 | (injection eo24 with f1_ f2_ f3_; have f4_ := f1_.symm; have f5_ := f3_.symm; clear f1_ f2_ f3_; subst f4_; subst f5_))
                    refine norm_ (a' := ?_) ?_ ?_
                    rotate_left
                    · simp only [putAll, Act.put, List.setIfInBounds_toArray, List.set_cons_zero, List.set_cons_succ]
                      rfl
                    refine one_ (i := 13) (N := some 27) #[true, true, true, true, true, true, true, true, true, true, true, true, true, true, false, false] rfl rfl (one_of HT_.out (by kernel_rfl)) (by decide) (fun K hK => ?_)
                    refine Kd.R_append_rows_step (Kd.int .u8) (w0 := w) w.heap.size (by rfl) (.tmp 20) (.tmp 26) 30 5 (.int .u8 0) 1 rfl Try.underlying30 info5 rfl (by decide) (by omega) (.slice Ao13 x5_1.length co13) x5_1 y203 _ _ _ (fun k_ => some k_ ≠ (v197 : Value).ownBlock ∧ some k_ ≠ (v200 : Value).ownBlock ∧ some k_ ≠ (.slice Ao24 y203.length co24 : Value).ownBlock) (fun _ => False) rfl rfl ?aO ?aR (fun _ _ h => h) (fun _ h => h.elim) ?aF ?aB ?aS ?aL ?_
                    (case aR => repeat (first | exact (Kd.R_reads' HO205.out).2.2 | (with_reducible refine Kd.C_alloc ?_ _) | (with_reducible refine Kd.C_drewN ?_ _) | (with_reducible refine Kd.C_drew ?_)))
                    (case aB => exact (by repeat (first | (with_reducible first | exact HB.out | apply below_alloc | apply pw_below_drewN | apply below_drew1 | refine below_set ?_ GE195.out) | exact HB.out)))
                    (case aF => exact (fun k_ hk => ⟨Kd.fresh' (Kd.R_lt (by (with_reducible repeat (first | apply Kd.R_alloc | apply Kd.R_drewN | apply Kd.R_drew)); exact HO198.out)) k_ hk, Kd.fresh' (Kd.R_lt (by (with_reducible repeat (first | apply Kd.R_alloc | apply Kd.R_drewN | apply Kd.R_drew)); exact HO201.out)) k_ hk, Kd.fresh' (Kd.R_lt (by (with_reducible repeat (first | apply Kd.R_alloc | apply Kd.R_drewN | apply Kd.R_drew)); exact HO205.out)) k_ hk⟩))
                    (case aO => exact (by (with_reducible repeat (first | apply Kd.R_alloc | apply Kd.R_drewN | apply Kd.R_drew)); exact HO_5.out))
                    (case aS => exact (below_size (by repeat (first | (with_reducible first | exact HB.out | apply below_alloc | apply pw_below_drewN | apply below_drew1 | refine below_set ?_ GE195.out) | exact HB.out))))
                    (case aL => have := LMc9.out; omega)
                    intro v207 w23 ho hb hg hat
                    rw [← Ny206.out] at ho
                    have n0_ := Aside0.mk (blk_grown (g := gb195) (o := .cells #[.int .i64 ((rd_T52 l0 x10_1).f0), .int .i64 ((rd_T52 l0 x10_1).f1), .int .i64 ((rd_T52 l0 x10_1).f2), .int .i64 ((rd_T52 l0 x10_1).f3), .slice (some ad202) ((rd_T52 l0 x10_1).f4).length c194_4] 52 (0, 0)) (by (with_reducible repeat (first | refine blk_drewN ?_ _ | refine blk_drew ?_ | refine blk_alloc ?_ _)); exact BK195.out) hg (Kd.R_ne HO_5.out BK195.out (by decide)))
                    have n1_ := Aside0.mk (Kd.R_after (ok := (fun k_ => some k_ ≠ (v200 : Value).ownBlock ∧ some k_ ≠ (.slice Ao24 y203.length co24 : Value).ownBlock)) (by (with_reducible repeat (first | apply Kd.R_alloc | apply Kd.R_drewN | apply Kd.R_drew)); exact Kd.R_mono HO198.out (fun _ hk => ⟨⟨hk.1, hk.2.1⟩, hk.2.2⟩)) hg hat)
                    have n2_ := Aside0.mk (Kd.R_after (ok := (fun k_ => some k_ ≠ (v197 : Value).ownBlock ∧ some k_ ≠ (.slice Ao24 y203.length co24 : Value).ownBlock)) (by (with_reducible repeat (first | apply Kd.R_alloc | apply Kd.R_drewN | apply Kd.R_drew)); exact Kd.R_mono HO201.out (fun _ hk => ⟨⟨hk.1, hk.2.1⟩, hk.2.2⟩)) hg hat)
                    have n3_ := Aside0.mk (Kd.R_after (ok := (fun k_ => some k_ ≠ (v197 : Value).ownBlock ∧ some k_ ≠ (v200 : Value).ownBlock)) (by (with_reducible repeat (first | apply Kd.R_alloc | apply Kd.R_drewN | apply Kd.R_drew)); exact Kd.R_mono HO205.out (fun _ hk => ⟨⟨hk.1, hk.2.1⟩, hk.2.2⟩)) hg hat)
                    have n4_ := Aside0.mk (hb)
                    have n5_ := Aside0.mk (ho)
                    clear BK195
                    clear HO198
                    clear HO201
                    clear HO205
                    clear HB
                    clear HO_5
                    have BK195 := n0_
                    have HO198 := n1_
                    have HO201 := n2_
                    have HO205 := n3_
                    have HB := n4_
                    have HO208 := n5_
                    clear n0_ n1_ n2_ n3_ n4_ n5_
                    clear ho hb hg hat
                    refine hK.out _ _ ⟨(blk_cell BK195.out 0).trans rfl, (blk_cell BK195.out 1).trans rfl, (blk_cell BK195.out 2).trans rfl, (blk_cell BK195.out 3).trans rfl, (blk_cell BK195.out 4).trans rfl, ((HB.out.cell (World.block_lt_of_cell? w _ hw202_0)).trans hw202_0)⟩ (fun hHeld => ?_)
                    clear hK K
                    refine norm_ (a' := ?_) ?_ ?_
                    rotate_left
                    · show Act.put _ (some 27) _ = _
                      simp only [Act.put, List.setIfInBounds_toArray, List.set_cons_zero, List.set_cons_succ, i64_w, i32_w]
                      rfl
                    refine pure_ (i := 14) (N := some 4) (v := ?_) (a' := ?_) #[true, true, true, true, true, true, true, true, true, true, true, true, true, true, true, false] rfl rfl (any_of HT_.out (by kernel_rfl)) (fun _ _ _ h => h) (Or.inl ⟨by rfl, ?_⟩) ?_ ?_
                    rotate_left
                    · intro w'
                      go_simp
                      with_reducible rfl
                    rotate_left
                    · simp only [Act.put, List.setIfInBounds_toArray, List.set_cons_zero, List.set_cons_succ, i64_w, i32_w]
                      rfl
                    refine pure_ (i := 15) (N := some 5) (v := ?_) (a' := ?_) #[true, true, true, true, true, true, true, true, true, true, true, true, true, true, true, true] rfl rfl (any_of HT_.out (by kernel_rfl)) (fun _ _ _ h => h) (Or.inl ⟨by rfl, ?_⟩) ?_ ?_
                    rotate_left
                    · intro w'
                      go_simp
                      with_reducible rfl
                    rotate_left
                    · simp only [Act.put, List.setIfInBounds_toArray, List.set_cons_zero, List.set_cons_succ, i64_w, i32_w]
                      rfl
                    refine done_ (done_of HT_.out (by kernel_rfl)) ?_
                    try go_wp2
                    go_roundg k1
                    case measure => have := HK1.out; omega
                    case rel => exact ⟨(y199), (y206), (wrap64 (x10_1 + 1)), (by first | rfl | (simp; done) | (simp [*]; done)), H', ⟨by have := HK1.out; omega⟩, ⟨by (with_reducible repeat (first | apply Kd.R_alloc | apply Kd.R_drewN | apply Kd.R_drew)); exact Kd.R_mono HO201.out (fun _ hk => hk.2)⟩, ⟨by (with_reducible repeat (first | apply Kd.R_alloc | apply Kd.R_drewN | apply Kd.R_drew)); exact Kd.R_mono HO208.out (fun _ hk => hk.2.1)⟩, ⟨by repeat (first | (with_reducible first | exact HB.out | apply below_alloc | apply pw_below_drewN | apply below_drew1 | refine below_set ?_ GE195.out) | exact HB.out)⟩⟩
                  · rw [if_neg c9] at H
                    exact absurd H (by simp)
                · rw [if_neg c8] at H
                  exact absurd H (by simp)
              · rw [if_neg c7] at H
                exact absurd H (by simp)
            · rw [if_neg c6] at H
              exact absurd H (by simp)
          · rw [if_neg c5] at H
            exact absurd H (by simp)
        · rw [if_neg c4] at H
          exact absurd H (by simp)
      · rw [if_neg c3] at H
        have c3b0 : decide (x10_1 < (l0.length : Int)) = false := decide_eq_false c3
        clear c3
        simp only [Option.some.injEq, Prod.mk.injEq] at H
        obtain ⟨rfl, rfl⟩ := H
        go_wp2
        go_ret2
        exact ⟨_, _, by first | rfl | (simp [errW_none, errW_some] <;> rfl) | (simp [*, errW_none, errW_some] <;> rfl), by (with_reducible repeat (first | apply Kd.R_alloc | apply Kd.R_drewN | apply Kd.R_drew)); exact HO_4.out, by (with_reducible repeat (first | apply Kd.R_alloc | apply Kd.R_drewN | apply Kd.R_drew)); exact HO_5.out, by repeat (first | (with_reducible first | exact HB.out | apply below_alloc | apply pw_below_drewN | apply below_drew1) | exact HB.out)⟩
end Go.Proofs.Ytillfbohengpaaa.PA
end
section
set_option linter.unusedVariables false
set_option linter.unusedSimpArgs false
namespace Go.Proofs.Ytillfbohengpaaa
open Go.RowKit Gf Go.Sort
section
variable {α : Type} {enc : α → Value} {E : TypeId} {base : Nat}
theorem wpList_mk0 {P : Program} {ops : Array Oper} {rest : List Oper} {o : Oper} {a : Act} {Q : Exit → Act → World → Prop} {w : World} (hg : o.guard = none) (lo co : Operand) (t : TypeId) (hop : o.op = Op.makeSlice t lo co)
    {i : TypeInfo} {z : Value} (n : Nat) (ht : P.underlying t = some (.slice E)) (hi : P.info? E = some i) (hz : i.zero = some z) (hsize : i.size = 1)
    (kl kc : IntKind) (C : Int) (hl : a.eval lo = .int kl 0) (hc : a.eval co = .int kc C) (hC : C = (n : Int)) (hlen : i.bytes * n ≤ 281474976710656) (hlen2 : n ≤ 9223372036854775807) (hb : base ≤ w.heap.size)
    (hK : ∀ w', OwnL enc E w' base (.slice (some ⟨w.heap.size, 0, none⟩) 0 n) 0 [] → Below w.heap.size w w' → wpList P ops Q rest (a.put o.dst (.slice (some ⟨w.heap.size, 0, none⟩) 0 n)) w') :
    wpList P ops Q (o :: rest) a w := by
  refine wpList_make_own w hg lo co t hop base E i z 1 ht hi hz hsize kl kc C n hl hc hC hlen (by simp only [maxLen]; omega) hb ?_
  intro w' h2 h3
  exact hK w' h2 (grown_below h3)
end
theorem range_snoc {β : Type} (g : Nat → β) (k : Nat) : (List.range k).map g ++ [g k] = (List.range (k + 1)).map g := by simp [List.range_succ]
set_option maxRecDepth 100000 in
set_option maxHeartbeats 2000000 in
theorem columns_u8 (fc : FuncId) (caps : Array Value) (n : Nat) (g : Nat → G) (w : World) (hn : n ≤ 1000) (hcf : ∀ args W, Sem.run Try.prog (callFunc fc args) W = .ok (.enter fc args) W)
    (hf : ∀ (at_ : Nat) (W : World), at_ < n → Below w.heap.size w W → Calls Try.prog fc (#[.int .i64 (at_ : Int)] ++ caps) W fun e w' => e = .returned (gv (g at_)) ∧ Below W.heap.size W w') :
    Calls Try.prog 43 #[.int .i64 (n : Int), .func (.func fc) #[] caps] w fun e w' => ∃ v, e = .returned v ∧ OwnL gv 5 w' w.heap.size v n ((List.range n).map g) ∧ Below w.heap.size w w' := by
  obtain ⟨i0, hi, hz0, hz1, hz2⟩ := info_parts Try.info5
  go_enter Try.func43, Try.ntmps43
  go_wp2_with (at_make; refine wpList_mk0 (enc := gv) (base := w.heap.size) rfl _ _ 30 rfl n slice_u8 hi hz0 hz1 _ _ _ rfl rfl rfl (by rw [hz2]; omega) (by omega) (Nat.le_refl _) ?_; intro w1 hol hb1)
  go_loopw [5, 6, 10] (fun lv _ si wr => ∃ (k : Nat), k ≤ n ∧ si = .int .i64 k ∧ OwnL gv 5 wr w.heap.size lv k ((List.range k).map g) ∧ Below w.heap.size w wr) (fun _ _ si _ => n - (intOf si).toNat)
  case atStart => exact ⟨0, by omega, rfl, hol, hb1⟩
  case round =>
    obtain ⟨k, hk, rfl, hl, hB⟩ := hrel
    clear hol hb1
    by_cases hlt : k < n
    · go_wp2_with fail
      refine (hf k _ hlt hB).mono ?_
      rintro e w2 ⟨rfl, hb2⟩
      have hB2 := bthen hB hb2
      replace hl := hl.below hb2
      go_wp2_with (at_builtin; refine wpList_app rfl _ _ 30 rfl (g k) rfl slice_u8 hi hz0 hz1 hz2 rfl rfl rfl hl rfl hB2.size (by omega) (by omega) ?_; intro v5 w5 hol5 hgr5 hob5)
      have hlow : Below w.heap.size w w5 := hB2.grown hgr5 hB2.size (fun k hk => (hl.lt k hk).1)
      go_wp2_with fail
      refine ⟨⟨k + 1, by omega, by go_num, by rw [← range_snoc]; exact hol5, hlow⟩, by simp [intOf]; omega⟩
    · obtain rfl : k = n := by omega
      go_wp2_with fail
      go_ret
      exact ⟨_, rfl, hl, hB⟩
def VRs (w : World) (base : Nat) (lv : Value) (vs : List Value) (n : Nat) (g : Nat → List G) : Prop :=
  vs.length = n ∧ ∀ j (h : j < vs.length), ∃ m, OwnL gv 5 w base vs[j] m (g j) ∧ (vs[j].ownBlock = none ∨ vs[j].ownBlock ≠ lv.ownBlock)
theorem VRs.below {w w' : World} {base : Nat} {lv : Value} {vs : List Value} {n : Nat} {g : Nat → List G} (h : VRs w base lv vs n g) (hb : Below w.heap.size w w') : VRs w' base lv vs n g :=
  ⟨h.1, fun j hj => by obtain ⟨m, ho, hn⟩ := h.2 j hj; exact ⟨m, ho.below hb, hn⟩⟩
theorem VRs.snoc {w w' : World} {base n m : Nat} {lv lv' v : Value} {vs : List Value} {g : Nat → List G} (h : VRs w base lv vs n g) (hv : OwnL gv 5 w base v m (g n)) (hne : v.ownBlock = none ∨ v.ownBlock ≠ lv.ownBlock)
    (hg : w.grownBy w' lv.ownBlock) (hob : lv'.ownBlock = lv.ownBlock ∨ lv'.ownBlock = some (w.heap.size + 1)) : VRs w' base lv' (vs ++ [v]) (n + 1) g := by
  have key : ∀ (u : Value) (l : List G) (m : Nat), OwnL gv 5 w base u m l → (u.ownBlock = none ∨ u.ownBlock ≠ lv.ownBlock) → OwnL gv 5 w' base u m l ∧ (u.ownBlock = none ∨ u.ownBlock ≠ lv'.ownBlock) := by
    intro u l m hu hn
    refine ⟨hu.kept hg hn, ?_⟩
    rcases hob with e | e
    · rw [e]; exact hn
    · cases hb : u.ownBlock with
      | none => exact .inl rfl
      | some k =>
        refine .inr ?_
        rw [e]
        intro e2
        have := (hu.lt k hb).2
        have : k = w.heap.size + 1 := Option.some.inj e2
        omega
  refine ⟨by simp [h.1], fun j hj => ?_⟩
  by_cases hl : j < vs.length
  · obtain ⟨m, ho, hn⟩ := h.2 j hl
    rw [List.getElem_append_left hl]
    exact ⟨m, key _ _ _ ho hn⟩
  · have hjn : j = n := by simp at hj; have := h.1; omega
    subst hjn
    rw [List.getElem_append_right (by omega)]
    simp only [h.1, Nat.sub_self, List.getElem_cons_zero]
    exact ⟨m, key _ _ _ hv hne⟩
theorem Try.info30 : (Try.prog.info? 30).map (fun i => (i.zero, i.size, i.bytes)) = some (some (.slice none 0 0), 1, 24) := by kernel_rfl
theorem slice_sl : Try.prog.underlying 50 = some (.slice 30) := by kernel_rfl
set_option maxRecDepth 100000 in
set_option maxHeartbeats 2000000 in
theorem columns_sl (fc : FuncId) (caps : Array Value) (n : Nat) (g : Nat → List G) (w : World) (hn : n ≤ 1000) (hcf : ∀ args W, Sem.run Try.prog (callFunc fc args) W = .ok (.enter fc args) W)
    (hf : ∀ (at_ : Nat) (W : World), at_ < n → Below w.heap.size w W → Calls Try.prog fc (#[.int .i64 (at_ : Int)] ++ caps) W fun e w' => ∃ v m, e = .returned v ∧ OwnL gv 5 w' W.heap.size v m (g at_) ∧ Below W.heap.size W w') :
    Calls Try.prog 40 #[.int .i64 (n : Int), .func (.func fc) #[] caps] w fun e w' => ∃ v vs, e = .returned v ∧ OwnL id 30 w' w.heap.size v n vs ∧ VRs w' w.heap.size v vs n g ∧ Below w.heap.size w w' := by
  obtain ⟨i0, hi, hz0, hz1, hz2⟩ := info_parts Try.info30
  go_enter Try.func40, Try.ntmps40
  go_wp2_with (at_make; refine wpList_mk0 (enc := id) (base := w.heap.size) rfl _ _ 50 rfl n slice_sl hi hz0 hz1 _ _ _ rfl rfl rfl (by rw [hz2]; omega) (by omega) (Nat.le_refl _) ?_; intro w1 hol hb1)
  go_loopw [5, 6, 10] (fun lv _ si wr => ∃ (k : Nat) (vs : List Value), k ≤ n ∧ si = .int .i64 k ∧ OwnL id 30 wr w.heap.size lv k vs ∧ VRs wr w.heap.size lv vs k g ∧ Below w.heap.size w wr) (fun _ _ si _ => n - (intOf si).toNat)
  case atStart => exact ⟨0, [], by omega, rfl, hol, ⟨rfl, fun j h => by simp at h⟩, hb1⟩
  case round =>
    obtain ⟨k, vs, hk, rfl, hl, hvs, hB⟩ := hrel
    clear hol hb1
    by_cases hlt : k < n
    · go_wp2_with fail
      refine (hf k _ hlt hB).mono ?_
      rintro e w2 ⟨v, m, rfl, hv, hb2⟩
      have hB2 := bthen hB hb2
      have hne : ∀ x : Value, (∀ q, x.ownBlock = some q → q < ‹World›.heap.size) → True := fun _ _ => trivial
      have hvne : v.ownBlock = none ∨ v.ownBlock ≠ u5.ownBlock := by
        cases hb : v.ownBlock with
        | none => exact .inl rfl
        | some q =>
          refine .inr fun e2 => ?_
          have h1 := (hv.lt q hb).1
          have h2 := (hl.lt q e2.symm).2
          omega
      replace hl := hl.below hb2
      replace hvs := hvs.below hb2
      have hv' := hv.rebase hB.size
      clear hne
      obtain ⟨A, c, rfl, hmc⟩ := hv.any
      clear hv
      have HV := Lib.hid hv'
      have HN := Lib.hid hvne
      clear hv' hvne
      go_wp2_with (at_builtin; refine wpList_app (enc := id) rfl _ _ 50 rfl (Value.slice A m c) rfl slice_sl hi hz0 hz1 hz2 rfl rfl rfl hl rfl hB2.size (by omega) (by omega) ?_; intro v5 w5 hol5 hgr5 hob5)
      have hlow : Below w.heap.size w w5 := hB2.grown hgr5 hB2.size (fun k hk => (hl.lt k hk).1)
      have hvs5 := hvs.snoc HV.out HN.out hgr5 hob5
      have HVS := Lib.hid hvs5
      clear hvs5 hob5 hvs
      go_wp2_with fail
      refine ⟨⟨k + 1, _, by omega, by go_num, hol5, HVS.out, hlow⟩, by simp [intOf]; omega⟩
    · obtain rfl : k = n := by omega
      go_wp2_with fail
      go_ret
      exact ⟨_, _, rfl, hl, hvs, hB⟩
end Go.Proofs.Ytillfbohengpaaa
end
