/-
  WALKS: field.Coefficients, field.Through.
-/
import Derived.Test.YtillfbohengpaaaReg
import Derived.Test.YtillfbohengpaaaOwn
import Derived.Test.YtillfbohengpaaaPoints
import Derived.Test.YtillfbohengpaaaEval
import Derived.BigQuiet
set_option linter.unusedVariables false
set_option linter.unusedSimpArgs false
namespace Go.Proofs.Ytillfbohengpaaa
open Go.RowKit Gf Go.Sort
attribute [local go_sem] bits_gx
theorem Try.info5 : (Try.prog.info? 5).map (fun i => (i.zero, i.size, i.bytes)) = some (some (.int .u8 0), 1, 1) := by kernel_rfl
theorem slice_u8 : Try.prog.underlying 30 = some (.slice 5) := by kernel_rfl
theorem mixed : Try.prog.follows .mixedOrders = true := by kernel_rfl
theorem RL.atg {w : World} {A : Option Addr} {n : Nat} {l : List G} (h : RL gv w A n l) (j : Nat) (hj : j < n) : ∃ b o, A = some ⟨b, o, none⟩ ∧ b < w.heap.size ∧ w.cell? ⟨b, o + j, none⟩ = some (gv (g l j)) := by
  obtain ⟨b, o, h1, h2, h3⟩ := h.at j hj
  exact ⟨b, o, h1, h2, by rw [h3, g_eq l j (by rw [h.1]; exact hj)]⟩
theorem OwnL.cellg {E : TypeId} {w : World} {base n g0 cap : Nat} {l : List G} (h : OwnL gv E w base (.slice (some ⟨g0, 0, none⟩) n cap) n l) (j : Nat) (hj : j < n) : w.cell? ⟨g0, j, none⟩ = some (gv (g l j)) := by
  have := h.length
  rw [h.cell j (by omega), g_eq l j (by omega)]
theorem g_scale (c : G) (l : List G) (j : Nat) (h : j < l.length) : g (scale c l) j = mul c (g l j) := by
  rw [g_eq _ j (by simpa [scale] using h), g_eq l j h]; simp [scale]
theorem addTo_step (c T : G) (l z : List G) (j k : Nat) (hl : l.length = k) (hz : z.length = k) (hj : j < k) (hT : T = g (addTo l (scale c z) j) j) : (addTo l (scale c z) j).set j (gx T (mul c (g z j))) = addTo l (scale c z) (j + 1) := by
  have h := addTo_set l (scale c z) j (by omega) (by rw [addTo_length]; omega)
  rw [g_scale c z j (by omega), ← g_eq _ j (by rw [addTo_length]; omega), ← hT] at h
  exact h
theorem lin_mid (x T : G) (z : List G) (j : Nat) (hT : T = g (linTo z x 1#8 j) j) : (linTo z x 1#8 j).set j (gx T (mul (g z j) x)) = linMid z x 1#8 j := by
  subst hT; rfl
theorem lin_step (x V : G) (z : List G) (j : Nat) (hj : j < z.length) (hV : V = g (linMid z x 1#8 j) (j + 1)) : (linMid z x 1#8 j).set (j + 1) (gx V (g z j)) = linTo z x 1#8 (j + 1) := by
  have h := linTo_set z x 1#8 j hj
  rw [mul_one, ← hV] at h
  exact h
theorem invR_fst (a : G) : (invR a).1 = inv a := by
  unfold invR
  split
  · rename_i h; subst h; decide +kernel
  · rfl
theorem nt_next (xs ys : List G) (k : Nat) (z l l1 : List G) (X Y C : G) (HS : ntTo xs ys k = (z, l)) (hX : X = g xs k) (hY : Y = g ys k) (hl1 : l ++ [0#8] = l1) (hC : C = mul (gx Y (ev l X)) (invR (ev z X)).1) :
    ntTo xs ys (k + 1) = (lin z X 1#8, add l1 (scale C z)) := by
  subst hl1 hC hX hY
  rw [ntTo, HS, invR_fst]
  rfl
theorem coefs_bad (A B : Option Addr) (c d n m : Nat) (xs ys : List G) (w : World) (hx : RL gv w A n xs) (hy : RL gv w B m ys) (hn : ¬ (xs.Nodup ∧ n = m)) :
    Calls Try.prog 20 #[.slice A n c, .slice B m d] w fun e w' => e = .returned (.tuple #[.slice none 0 0, .int .i64 1]) ∧ Below w.heap.size w w' := by
  have hd : decide (xs.Nodup ∧ n = m) = false := decide_eq_false hn
  clear hn
  go_enter Try.func20, Try.ntmps20
  go_wp2_with fail
  refine (points_u _ _ _ _ _ _ _ _ hx).mono ?_
  rintro e w1 ⟨rfl, hb1⟩
  rw [hd]
  go_wp2_with fail
  go_ret2
  exact ⟨rfl, hb1⟩
set_option maxRecDepth 100000 in
set_option maxHeartbeats 2000000 in
theorem coefs_ok (A B : Option Addr) (c d n : Nat) (xs ys : List G) (w : World) (hx : RL gv w A n xs) (hy : RL gv w B n ys) (hn : xs.Nodup) (hb : n ≤ 1000) :
    Calls Try.prog 20 #[.slice A n c, .slice B n d] w fun e w' => ∃ v, e = .returned (.tuple #[v, .int .i64 0]) ∧ OwnL gv 5 w' w.heap.size v n (coefs xs ys) ∧ Below w.heap.size w w' := by
  have hlx := Lib.hid hx.1
  obtain ⟨i0, hi, hz0, hz1, hz2⟩ := info_parts Try.info5
  go_enter Try.func20, Try.ntmps20
  go_wp2_with fail
  refine (points_u _ _ _ _ _ _ _ _ hx).mono ?_
  rintro e w1 ⟨rfl, hb1⟩
  rw [show decide (xs.Nodup ∧ n = n) = true from decide_eq_true ⟨hn, rfl⟩]
  go_wp2_with fail
  generalize hW0 : w1.alloc _ = W0
  have hz : OwnL gv 5 W0 w.heap.size (.slice (some ⟨w1.heap.size, 0, none⟩) 1 1) 1 [1#8] := by
    rw [← hW0]; exact OwnL.lit w1 _ [1#8] 1 rfl rfl hb1.size (by decide)
  have hB0 : Below w.heap.size w W0 := by rw [← hW0]; exact balloc hb1 _
  clear hW0
  go_loopw [4, 6, 24] (fun lv zv si wr => ∃ (k : Nat) (z l : List G), k ≤ n ∧ si = .int .i64 k ∧ Hid (ntTo xs ys k = (z, l)) ∧ OwnL gv 5 wr w.heap.size lv k l ∧ OwnL gv 5 wr w.heap.size zv (k + 1) z ∧ (lv.ownBlock = none ∨ lv.ownBlock ≠ zv.ownBlock) ∧ Below w.heap.size w wr)
    (fun _ _ si _ => n - (intOf si).toNat)
  case atStart => exact ⟨0, [1#8], [], by omega, rfl, rfl, OwnL.nil _ _ _ _, hz, .inl rfl, hB0⟩
  case round =>
    obtain ⟨k, z, l, hk, rfl, HS, hol, hoz, hne, hB⟩ := hrel
    clear hz hB0
    by_cases hlt : k < n
    · obtain ⟨bx, ox, rfl, hbx, hcx⟩ := hx.atg k hlt
      obtain ⟨b_y, oy, rfl, hby, hcy⟩ := hy.atg k hlt
      obtain ⟨X, HX⟩ : ∃ X, Hid (X = g xs k) := ⟨_, rfl⟩
      obtain ⟨Y, HY⟩ : ∃ Y, Hid (Y = g ys k) := ⟨_, rfl⟩
      rw [← HX.out] at hcx
      rw [← HY.out] at hcy
      have hcx' := (hB.cell (p := ⟨bx, ox + k, none⟩) hbx).trans hcx
      obtain ⟨gz, capz, rfl, hgz, hgzlt⟩ := hoz.form (by omega)
      have hrz := hoz.rlg
      obtain ⟨Al, cl, rfl, hrl⟩ := hol.rl
      clear hcx
      go_wp2_with fail
      refine (eval_u _ _ _ _ _ _ hrz).mono ?_
      rintro e w2 ⟨rfl, hb2⟩
      go_wp2_with fail
      refine (inv_u _ _).mono ?_
      rintro e w3 ⟨rfl, hb3⟩
      go_wp2_with fail
      have hb23 : Below wr.heap.size wr w3 := bthen hb2 hb3
      have hB3 := bthen hB hb23
      have hcy' : ∀ (dr : Nat) (os : Array Obj), (grow (redrawn w3 dr) os).cell? ⟨b_y, oy + k, none⟩ = some (gv Y) := cell_regrown ((hB3.cell (p := ⟨b_y, oy + k, none⟩) hby).trans hcy)
      have hrl3 := hrl.below hb23
      refine wp_region_quiet_below mixed (by kernel_rfl) ?_
      repeat (quiet_step ((first | (go_at_call 22; exact Calls.regrown_of (eval_u _ _ _ _ _ _ (hrl3.below (below_regrown _ _ _)))) | (go_at_call 18; exact Calls.regrown_of (mul_u _ _ _)))))
      refine wpQuiet_nil ?_
      rintro _ ⟨p4, rfl⟩
      have hb4 := below_regrown w3 p4.d p4.os
      generalize grow (redrawn w3 p4.d) p4.os = w4 at *
      clear hcy' hrl3 hrz hrl hcx' hcy
      have hb24 := bthen hb23 hb4
      have hB4 := bthen hB hb24
      replace hol := hol.below hb24
      replace hoz := hoz.below hb24
      generalize Value.slice Al k cl = lv4 at *
      go_wp2_with (at_builtin; refine wpList_app rfl _ _ 30 rfl 0#8 rfl slice_u8 hi hz0 hz1 hz2 rfl rfl rfl hol rfl hB4.size (by omega) (by omega) ?_; intro v5 w5 hol5 hgr5 hob5)
      have hlow : Below w.heap.size w w5 := hB4.grown hgr5 hB4.size (fun k hk => (hol.lt k hk).1)
      have hgz4 : gz < w4.heap.size := (hoz.lt gz rfl).2
      have hzn : some gz ≠ lv4.ownBlock := by
        rcases hne with h | h
        · rw [h]; simp
        · exact fun e => h e.symm
      have hoz5 := hoz.kept hgr5 (.inr hzn)
      obtain ⟨g5, cap5, rfl, hg5, hg5lt⟩ := hol5.form (by omega)
      have h5z : g5 ≠ gz := by
        rintro rfl
        rcases hob5 with h | h
        · exact hzn h
        · have : g5 = w4.heap.size + 1 := Option.some.inj h
          omega
      obtain ⟨C, HC⟩ : ∃ C, Hid (C = mul (gx Y (ev l X)) (invR (ev z X)).1) := ⟨_, rfl⟩
      rw [← HC.out]
      have hll : (l ++ [0#8]).length = k + 1 := hol5.length
      have hlz : z.length = k + 1 := hoz5.length
      generalize hl1 : l ++ [0#8] = l1 at *
      have HL1 := Lib.hid hl1; clear hl1
      rw [← addTo_zero l1 (scale C z)] at hol5
      replace hll := Lib.hid hll
      replace hlz := Lib.hid hlz
      have Hne := Lib.hid h5z
      clear hgr5 hob5 hzn hoz hol hne h5z
      go_loopw [51] (fun si wr => ∃ (j : Nat), j ≤ k + 1 ∧ si = .int .i64 j ∧ OwnL gv 5 wr w.heap.size (.slice (some ⟨g5, 0, none⟩) (k + 1) cap5) (k + 1) (addTo l1 (scale C z) j) ∧ OwnL gv 5 wr w.heap.size (.slice (some ⟨gz, 0, none⟩) (k + 1) capz) (k + 1) z ∧ Below w.heap.size w wr)
        (fun si _ => k + 1 - (intOf si).toNat)
      case atStart => exact ⟨0, by omega, rfl, hol5, hoz5, hlow⟩
      case round =>
        obtain ⟨j, hj, rfl, hl6, hz6, hB6⟩ := hrel
        clear hol5 hoz5 hlow hgz4 hB4 hb24 hb4
        by_cases hjlt : j < k + 1
        · have hcz := hz6.cellg j hjlt
          have hcl := hl6.cellg j hjlt
          generalize hT : g (addTo l1 (scale C z) j) j = T at hcl
          have HT := Lib.hid hT.symm; clear hT
          go_wp2_with fail
          have hcl' : ∀ (dr : Nat) (os : Array Obj), (grow (redrawn wr dr) os).cell? ⟨g5, j, none⟩ = some (gv T) := cell_regrown hcl
          refine wp_region_qt 8 mixed (by kernel_rfl) (by decide) (by kernel_rfl) ?_
          repeat (quiet_step ((go_at_call 18; exact Calls.regrown_of (mul_u _ _ _))))
          refine wpQuiet_nil ?_
          intro w7 hb7
          have hg5w := (hl6.lt g5 rfl).2
          replace hl6 := hl6.below hb7
          replace hz6 := hz6.below hb7
          replace hB6 := bthen hB6 hb7
          have hcl7 : w7.cell? ⟨g5, j, none⟩ = some (gv T) := (hb7.cell (p := ⟨g5, j, none⟩) hg5w).trans hcl
          have hfr := hl6.free j
          clear hcl' hcl hcz
          go_wp2_with fail
          refine ⟨⟨j + 1, by omega, by go_num, ?_, ?_, ?_⟩, by simp [intOf]; omega⟩
          · rw [← addTo_step C T l1 z j (k + 1) hll.out hlz.out hjlt HT.out]
            exact hl6.set j _
          · exact hz6.setOther _ _ (fun e => Hne.out (Option.some.inj e).symm)
          · exact hB6.setCell hg5 _
        · obtain rfl : j = k + 1 := by omega
          rw [addTo_all l1 (scale C z) (by simp [scale, hll.out, hlz.out]) (k + 1) (by rw [hll.out]; omega)] at hl6
          go_wp2_with (at_make; refine wpList_mk (enc := gv) rfl _ _ 30 rfl 0#8 (k + 2) slice_u8 hi hz0 hz1 hz2 rfl _ _ _ _ rfl rfl (by omega) (by omega) (by omega) (by omega) hB6.size ?_; intro w7 hn7 hb7)
          have h5n : wr.heap.size ≠ g5 := Nat.ne_of_gt (hl6.lt g5 rfl).2
          have hzn : wr.heap.size ≠ gz := Nat.ne_of_gt (hz6.lt gz rfl).2
          have hBn := hB6.size
          replace hl6 := hl6.below hb7
          replace hz6 := hz6.below hb7
          replace hB6 := bthen hB6 hb7
          clear hb7
          generalize wr.heap.size = gn at *
          have HN5 := Lib.hid h5n
          have HNZ := Lib.hid hzn
          clear h5n hzn
          rw [show List.replicate (k + 2) 0#8 = linTo z X 1#8 0 by rw [linTo_zero, hlz.out]] at hn7
          go_loopw [72] (fun si wr => ∃ (j : Nat), j ≤ k + 1 ∧ si = .int .i64 j ∧ OwnL gv 5 wr w.heap.size (.slice (some ⟨gn, 0, none⟩) (k + 2) (k + 2)) (k + 2) (linTo z X 1#8 j) ∧ OwnL gv 5 wr w.heap.size (.slice (some ⟨g5, 0, none⟩) (k + 1) cap5) (k + 1) (add l1 (scale C z)) ∧ OwnL gv 5 wr w.heap.size (.slice (some ⟨gz, 0, none⟩) (k + 1) capz) (k + 1) z ∧ Below w.heap.size w wr)
            (fun si _ => k + 1 - (intOf si).toNat)
          case atStart => exact ⟨0, by omega, rfl, hn7, hl6, hz6, hB6⟩
          case round =>
            obtain ⟨j, hj, rfl, hn8, hl8, hz8, hB8⟩ := hrel
            clear hn7 hl6 hz6 hB6
            by_cases hjlt : j < k + 1
            · have hcz := hz8.cellg j hjlt
              have hcn := hn8.cellg j (by omega)
              generalize hT : g (linTo z X 1#8 j) j = T at hcn
              have HT := Lib.hid hT.symm; clear hT
              generalize hZ : g z j = Z at hcz
              have HZ := Lib.hid hZ.symm; clear hZ
              go_wp2_with fail
              have hcn' : ∀ (dr : Nat) (os : Array Obj), (grow (redrawn wr dr) os).cell? ⟨gn, j, none⟩ = some (gv T) := cell_regrown hcn
              have hj2 : j < k + 2 := by omega
              have hj3 : (j : Int) < (k : Int) + 2 := by omega
              have hj4 : (j : Int) + 1 < (k : Int) + 2 := by omega
              refine wp_region_qt 8 mixed (by kernel_rfl) (by decide) (by kernel_rfl) ?_
              repeat (quiet_step ((go_at_call 18; exact Calls.regrown_of (mul_u _ _ _))))
              refine wpQuiet_nil ?_
              intro w9 hb9
              have hgw := (hn8.lt gn rfl).2
              replace hn8 := hn8.below hb9
              replace hl8 := hl8.below hb9
              replace hz8 := hz8.below hb9
              replace hB8 := bthen hB8 hb9
              have hcn9 : w9.cell? ⟨gn, j, none⟩ = some (gv T) := (hb9.cell (p := ⟨gn, j, none⟩) hgw).trans hcn
              have hfr := hn8.free j
              have hfr1 := hn8.free (j + 1)
              have hmid := hn8.set j (gx T (mul Z X))
              rw [HZ.out, lin_mid X T z j HT.out, ← HZ.out] at hmid
              have hcm := hmid.cellg (j + 1) (by omega)
              generalize hV : g (linMid z X 1#8 j) (j + 1) = V at hcm
              have HV := Lib.hid hV.symm; clear hV
              have hfm := hmid.free (j + 1)
              clear hcn' hcn hcz
              go_wp2_with fail
              refine ⟨⟨j + 1, by omega, by go_num, ?_, ?_, ?_, ?_⟩, by simp [intOf]; omega⟩
              · rw [← lin_step X V z j (by have := hlz.out; omega) HV.out, ← HZ.out]
                exact hmid.set (j + 1) _
              · exact (hl8.setOther _ _ (fun e => HN5.out (Option.some.inj e).symm)).setOther _ _ (fun e => HN5.out (Option.some.inj e).symm)
              · exact (hz8.setOther _ _ (fun e => HNZ.out (Option.some.inj e).symm)).setOther _ _ (fun e => HNZ.out (Option.some.inj e).symm)
              · exact (hB8.setCell hBn _).setCell hBn _
            · obtain rfl : j = k + 1 := by omega
              have hnt := nt_next xs ys k z l l1 X Y C HS.out HX.out HY.out HL1.out HC.out
              have hla := linTo_all z X 1#8
              rw [hlz.out] at hla
              rw [hla] at hn8
              clear hla
              have HNT := Lib.hid hnt
              clear hnt
              go_wp2_with fail
              refine ⟨⟨k + 1, lin z X 1#8, add l1 (scale C z), by omega, by go_num, HNT.out, hl8, hn8, .inr (fun e => HN5.out (Option.some.inj e).symm), hB8⟩, by simp [intOf]; omega⟩
    · obtain rfl : k = n := by omega
      go_wp2_with fail
      go_ret2
      refine ⟨_, rfl, ?_, hB⟩
      have : coefs xs ys = l := by unfold coefs; rw [hlx.out, HS.out]
      rw [this]
      exact hol
end Go.Proofs.Ytillfbohengpaaa
