/- The walk of FramePuts. No condition but that the sums' table is laid. -/
import Derived.Test.YtgkcbhijkcbjkaaDoorFrmLawT
import Derived.Test.YtgkcbhijkcbjkaaDoorGrowF
set_option linter.unusedVariables false
set_option linter.unusedSimpArgs false
namespace Go.Proofs.YtgkcbhijkcbjkaaDoor
open Go Go.RowKit W Vint Crc
namespace Fm
theorem putF_len (f : Frm) (h : f.d.length ≤ 500) : (putF f).length ≤ 1000000 := by
  unfold putF
  split
  · rename_i hr
    have := body_le hr
    rw [sealed_length]
    omega
  · simp
theorem u64_lt_ne {a b : UInt64} (h : n64 b < n64 a) : (a == b) = false := by
  rw [beq_eq_false_iff_ne]
  intro e
  subst e
  omega
set_option maxRecDepth 100000 in
set_option maxHeartbeats 8000000 in
theorem framePuts_walk (f g : Frm) (w : World) (hdf : f.d.length ≤ maxLen) (hdg : g.d.length ≤ maxLen) (hH0 : Halves w) :
    Calls Tryd.prog 4 #[frmV f, frmV g] w (Ret (eqv (.bool true)) w) := by
  unfold maxLen at hdf hdg
  have g0 := ((Gr.refl w).alloc (.cells (fc f) 30)).alloc (.cells (fc g) 30)
  have hH := Lib.hid (hH0.gr hH0.lt g0)
  have b1 := (Blk.new w 30 (fc f)).alloc (.cells (fc g) 30)
  have b2 := Blk.new (w.alloc (.cells (fc f) 30)) 30 (fc g)
  rw [World.size_alloc] at b2
  have bx := Lib.hid b1
  have by_ := Lib.hid b2
  have G0 := Lib.hid g0
  have hHw := Lib.hid hH0
  clear g0 hH0 b1 b2
  by_cases hf : f.d.length ≤ 500
  · by_cases hg500 : g.d.length ≤ 500
    · have hf' : ¬ (500 : Int) < (f.d.length : Int) := by omega
      have hg' : ¬ (500 : Int) < (g.d.length : Int) := by omega
      have hpl := putF_len f hf
      have hgp := Lib.hid (fun h : right f = true => getF_put h)
      have hput := Lib.hid (fun w => put_any f w (by omega))
      obtain ⟨P, hP⟩ : ∃ P, putF f = P := ⟨_, rfl⟩
      rw [hP] at hpl hgp hput
      replace hP := Lib.hid hP
      go_enter Tryd.func4, Tryd.ntmps4
      go_wp2
      refine region_grow (by kernel_rfl) (by kernel_rfl) ?_
      refine GW.p1 (frmV f) rfl trivial (kn0 (t := 2) (c := .pointer (some ⟨w.heap.size, 0, none⟩)) (by kernel_rfl) rfl) (fun ρ w' hρ hg => by simp [execOp, hρ, go_sem, (hg.cell (p := ⟨w.heap.size, 0, none⟩) bx.out.lt).trans (bx.out.cell 0), (hg.cell (p := ⟨w.heap.size, 1, none⟩) bx.out.lt).trans (bx.out.cell 1), (hg.cell (p := ⟨w.heap.size, 2, none⟩) bx.out.lt).trans (bx.out.cell 2), (hg.cell (p := ⟨w.heap.size, 3, none⟩) bx.out.lt).trans (bx.out.cell 3)]) ?_
      refine GW.call1 (eqv (frmV f)) rfl trivial rfl Tryd.func12 (by kernel_rfl) (by kernel_rfl) (eqv_lasts _) (kn (t := 22) (j := 0) (by kernel_rfl)) (fun v w' hg hv => ?_) ?_
      · obtain rfl : v = _ := hv
        refine (to_any f w').mono ?_
        rintro e w9 ⟨rfl, hg9⟩
        exact ⟨_, rfl, rfl, hg9⟩
      refine GW.p1 (frmV g) rfl trivial (kn0 (t := 3) (c := .pointer (some ⟨w.heap.size + 1, 0, none⟩)) (by kernel_rfl) rfl) (fun ρ w' hρ hg => by simp [execOp, hρ, go_sem, (hg.cell (p := ⟨(w.heap.size + 1), 0, none⟩) by_.out.lt).trans (by_.out.cell 0), (hg.cell (p := ⟨(w.heap.size + 1), 1, none⟩) by_.out.lt).trans (by_.out.cell 1), (hg.cell (p := ⟨(w.heap.size + 1), 2, none⟩) by_.out.lt).trans (by_.out.cell 2), (hg.cell (p := ⟨(w.heap.size + 1), 3, none⟩) by_.out.lt).trans (by_.out.cell 3)]) ?_
      refine GW.call1 (eqv (frmV g)) rfl trivial rfl Tryd.func12 (by kernel_rfl) (by kernel_rfl) (eqv_lasts _) (kn (t := 24) (j := 2) (by kernel_rfl)) (fun v w' hg hv => ?_) ?_
      · obtain rfl : v = _ := hv
        refine (to_any g w').mono ?_
        rintro e w9 ⟨rfl, hg9⟩
        exact ⟨_, rfl, rfl, hg9⟩
      refine GW.alloc zc rfl trivial rfl (fun w => by kernel_rfl) ?_
      refine GW.alloc zc rfl trivial rfl (fun w => by kernel_rfl) ?_
      refine GW.tailF 4 5 5 6 (m := 6) (by simp) (by kernel_rfl) (by kernel_rfl) (MakesNew.mk' _ 26 zc (by omega) rfl rfl rfl rfl (fun w => by kernel_rfl) rfl) (MakesNew.mk' _ 26 zc (by omega) rfl rfl rfl rfl (fun w => by kernel_rfl) rfl) (by omega) (fun w' hg_ => ?_)
      intro v0 _ v1 h1 v2 _ v3 h3 v4 h4 v5 h5
      obtain rfl : v1 = (frmV f) := h1
      obtain rfl : v3 = (frmV g) := h3
      simp only [GFin, List.take_succ_cons, List.take_zero, List.drop_succ_cons, List.drop_zero, Act.put, List.setIfInBounds_toArray, List.set_cons_succ, List.set_cons_zero]
      intro hne
      obtain ⟨g5, rfl, hg5, n5⟩ := h4
      obtain ⟨g6, rfl, hg6, n6⟩ := h5
      have hgne : g5 ≠ g6 := fun e => hne (by subst e; rfl)
      have G3 := Lib.hid (Gr.trans G0.out hg_)
      have bx := Lib.hid (blk_more bx.out hg_)
      have by_ := Lib.hid (blk_more by_.out hg_)
      have hH := Lib.hid (hH.out.gr hH.out.lt hg_)
      rw [World.size_alloc, World.size_alloc] at hg5 hg6
      replace n5 := Lib.hid n5
      replace n6 := Lib.hid n6
      clear hne hg_ G0
      go_wp2_with (first
        | ((with_reducible refine wpList_isStore 26 (.tmp 5) (.tmp 23) rfl ?_); refine wpList_store_blk rfl 26 (.tmp 5) (.tmp 23) rfl g5 (fc f) rfl rfl 26 zc n5.out frmInfo rfl (by simp [Value.oneCell']) ?_; intro w4 m5 k5 z5; have n6 := Lib.hid (k5.blk n6.out (Ne.symm hgne)); have y5 := Lib.hid m5; have bx := Lib.hid (k5.blk bx.out (by omega)); have by_ := Lib.hid (k5.blk by_.out (by omega)); have l5 := n5.out.lt; have gk := Below.mono (Kb.below k5 (by omega)) (show w.heap.size + 1 + 1 ≤ g5 from hg5); clear z5 m5 k5)
        | ((with_reducible refine wpList_isStore 26 (.tmp 6) (.tmp 25) rfl ?_); refine wpList_store_blk rfl 26 (.tmp 6) (.tmp 25) rfl g6 (fc g) rfl rfl 26 zc n6.out frmInfo rfl (by simp [Value.oneCell']) ?_; intro w5 m6 k6 z6; have y6 := Lib.hid m6; have y5 := Lib.hid (k6.blk y5.out hgne); have bx := Lib.hid (k6.blk bx.out (by omega)); have by_ := Lib.hid (k6.blk by_.out (by omega)); have l6 := n6.out.lt; have G5 := Lib.hid (Below.trans (Below.trans G3.out (Below.mono gk (by omega))) (Below.mono (Kb.below k6 (by omega)) (show w.heap.size ≤ g6 by omega))); have q0 := y5.out.cell 0; have q1 := y5.out.cell 1; have q2 := y5.out.cell 2; have q3 := y5.out.cell 3; clear z6 m6 k6 gk))
      have hp := Lib.hid (hput.out w5 (hHw.out.gr hHw.out.lt G5.out))
      go_at_call 11
      refine hp.out.mono ?_
      rintro e w7 ⟨v, rfl, ⟨A7, c7, rfl, hc7, hm7, r7⟩, g7⟩
      have rP := Lib.hid r7
      have G7 := Lib.hid (Gr.trans G5.out g7)
      have hH7 := Lib.hid (hHw.out.gr hHw.out.lt G7.out)
      have y5 := Lib.hid (blk_more y5.out g7)
      have y6 := Lib.hid (blk_more y6.out g7)
      have bx := Lib.hid (blk_more bx.out g7)
      have by_ := Lib.hid (blk_more by_.out g7)
      have x1 := bx.out.cell 1
      have x2 := bx.out.cell 2
      have u1 := by_.out.cell 1
      have u2 := by_.out.cell 2
      clear hp r7 g7 G5 q0 q1 q2 q3 hput hH G3 n5 n6
      have hcs : (n64 g.b < n64 f.b ∧ (f.b == g.b) = false ∧ newer f g = true) ∨ (¬ n64 g.b < n64 f.b ∧ (f.b == g.b) = true ∧ n64 g.n < n64 f.n ∧ newer f g = true) ∨ (¬ n64 g.b < n64 f.b ∧ (f.b == g.b) = true ∧ ¬ n64 g.n < n64 f.n ∧ newer f g = false) ∨ (¬ n64 g.b < n64 f.b ∧ (f.b == g.b) = false ∧ newer f g = false) := by
        unfold newer
        by_cases h1 : n64 g.b < n64 f.b
        · exact .inl ⟨h1, u64_lt_ne h1, by simp [h1]⟩
        · cases hb : f.b == g.b
          · exact .inr (.inr (.inr ⟨h1, rfl, by simp [h1]⟩))
          · by_cases h2 : n64 g.n < n64 f.n
            · exact .inr (.inl ⟨h1, rfl, h2, by simp [h2]⟩)
            · exact .inr (.inr (.inl ⟨h1, rfl, h2, by simp [h1, h2]⟩))
      rcases hcs with ⟨c1, hbb, hnw⟩ | ⟨c1, hbb, c2, hnw⟩ | ⟨c1, hbb, c2, hnw⟩ | ⟨c1, hbb, hnw⟩
      · have hal : alike f g = false := by unfold alike; rw [hbb]; rfl
        replace hnw := Lib.hid hnw
        replace hal := Lib.hid hal
        go_wp2
        replace hnw := hnw.out
        replace hal := hal.out
        clear x1 x2 u1 u2
        refine region_grow (by kernel_rfl) (by kernel_rfl) ?_
        refine GW.mv rfl trivial (.inl rfl) (kn0' (t := 7) (c := .slice A7 P.length c7) (by kernel_rfl) rfl (isB_lasts _) (⟨A7, c7, rfl, hc7, hm7, rP.out⟩)) (isB_lasts _) ?_
        refine GW.bs (P) rfl trivial rfl Tryd.underlying22 Vint.byteType.1 Tryd.underlying9 (kn (t := 47) (j := 0) (by kernel_rfl)) ?_
        refine GW.p1 (frmV f) rfl trivial (kn0 (t := 2) (c := .pointer (some ⟨w.heap.size, 0, none⟩)) (by kernel_rfl) rfl) (fun ρ w' hρ hg => by simp [execOp, hρ, go_sem, (hg.cell (p := ⟨w.heap.size, 0, none⟩) bx.out.lt).trans (bx.out.cell 0), (hg.cell (p := ⟨w.heap.size, 1, none⟩) bx.out.lt).trans (bx.out.cell 1), (hg.cell (p := ⟨w.heap.size, 2, none⟩) bx.out.lt).trans (bx.out.cell 2), (hg.cell (p := ⟨w.heap.size, 3, none⟩) bx.out.lt).trans (bx.out.cell 3)]) ?_
        refine GW.call1 (eqv (str P)) rfl trivial rfl Tryd.func13 (by kernel_rfl) (by kernel_rfl) (eqv_lasts _) (kn (t := 49) (j := 2) (by kernel_rfl)) (fun v w' hg hv => ?_) ?_
        · obtain rfl : v = _ := hv
          refine (refPut_any f w' (by omega)).mono ?_
          rw [hP.out]
          rintro e w9 ⟨rfl, hg9⟩
          exact ⟨_, rfl, rfl, hg9⟩
        refine GW.bin (.bool false) rfl trivial rfl (kn (t := 48) (j := 1) (by kernel_rfl)) (kn (t := 50) (j := 3) (by kernel_rfl)) (fun w' => by simp [go_sem]) ?_
        refine GW.mv rfl trivial (.inl rfl) (kn (t := 51) (j := 4) (by kernel_rfl)) (eqv_lasts _) ?_
        refine GW.p1 (frmV f) rfl ⟨52, by kernel_rfl, by kernel_rfl, fun _ _ h => h⟩ (kn0 (t := 5) (c := .pointer (some ⟨g5, 0, none⟩)) (by kernel_rfl) rfl) (fun ρ w' hρ hg => by simp [execOp, hρ, go_sem, (hg.cell (p := ⟨g5, 0, none⟩) y5.out.lt).trans (y5.out.cell 0), (hg.cell (p := ⟨g5, 1, none⟩) y5.out.lt).trans (y5.out.cell 1), (hg.cell (p := ⟨g5, 2, none⟩) y5.out.lt).trans (y5.out.cell 2), (hg.cell (p := ⟨g5, 3, none⟩) y5.out.lt).trans (y5.out.cell 3)]) ?_
        refine GW.call1 (eqv (.bool (right f))) rfl ⟨52, by kernel_rfl, by kernel_rfl, fun _ _ h => h⟩ rfl Tryd.func14 (by kernel_rfl) (by kernel_rfl) (eqv_lasts _) (kn (t := 53) (j := 6) (by kernel_rfl)) (fun v w' hg hv => ?_) ?_
        · obtain rfl : v = _ := hv
          refine (right_any f w' (by omega)).mono ?_
          rintro e w9 ⟨rfl, hg9⟩
          exact ⟨_, rfl, rfl, hg9⟩
        refine GW.p1 (frmV f) rfl ⟨52, by kernel_rfl, by kernel_rfl, fun _ _ h => h⟩ (kn0 (t := 2) (c := .pointer (some ⟨w.heap.size, 0, none⟩)) (by kernel_rfl) rfl) (fun ρ w' hρ hg => by simp [execOp, hρ, go_sem, (hg.cell (p := ⟨w.heap.size, 0, none⟩) bx.out.lt).trans (bx.out.cell 0), (hg.cell (p := ⟨w.heap.size, 1, none⟩) bx.out.lt).trans (bx.out.cell 1), (hg.cell (p := ⟨w.heap.size, 2, none⟩) bx.out.lt).trans (bx.out.cell 2), (hg.cell (p := ⟨w.heap.size, 3, none⟩) bx.out.lt).trans (bx.out.cell 3)]) ?_
        refine GW.call1 (eqv (.bool (right f))) rfl ⟨52, by kernel_rfl, by kernel_rfl, fun _ _ h => h⟩ rfl Tryd.func15 (by kernel_rfl) (by kernel_rfl) (eqv_lasts _) (kn (t := 55) (j := 8) (by kernel_rfl)) (fun v w' hg hv => ?_) ?_
        · obtain rfl : v = _ := hv
          refine (refRight_any f w' (by omega)).mono ?_
          rintro e w9 ⟨rfl, hg9⟩
          exact ⟨_, rfl, rfl, hg9⟩
        refine GW.bin (.bool false) rfl ⟨52, by kernel_rfl, by kernel_rfl, fun _ _ h => h⟩ rfl (kn (t := 54) (j := 7) (by kernel_rfl)) (kn (t := 56) (j := 9) (by kernel_rfl)) (fun w' => by cases right f <;> simp [go_sem]) ?_
        refine GW.pick (b := false) rfl trivial rfl (kn (t := 52) (j := 5) (by kernel_rfl)) (kn (t := 57) (j := 10) (by kernel_rfl)) (eqv_lasts _) ?_
        refine GW.mv rfl trivial (.inl rfl) (kn (t := 58) (j := 11) (by kernel_rfl)) (eqv_lasts _) ?_
        refine GW.p1 (frmV f) rfl ⟨59, by kernel_rfl, by kernel_rfl, fun _ _ h => h⟩ (kn0 (t := 5) (c := .pointer (some ⟨g5, 0, none⟩)) (by kernel_rfl) rfl) (fun ρ w' hρ hg => by simp [execOp, hρ, go_sem, (hg.cell (p := ⟨g5, 0, none⟩) y5.out.lt).trans (y5.out.cell 0), (hg.cell (p := ⟨g5, 1, none⟩) y5.out.lt).trans (y5.out.cell 1), (hg.cell (p := ⟨g5, 2, none⟩) y5.out.lt).trans (y5.out.cell 2), (hg.cell (p := ⟨g5, 3, none⟩) y5.out.lt).trans (y5.out.cell 3)]) ?_
        refine GW.p1 (frmV g) rfl ⟨59, by kernel_rfl, by kernel_rfl, fun _ _ h => h⟩ (kn0 (t := 6) (c := .pointer (some ⟨g6, 0, none⟩)) (by kernel_rfl) rfl) (fun ρ w' hρ hg => by simp [execOp, hρ, go_sem, (hg.cell (p := ⟨g6, 0, none⟩) y6.out.lt).trans (y6.out.cell 0), (hg.cell (p := ⟨g6, 1, none⟩) y6.out.lt).trans (y6.out.cell 1), (hg.cell (p := ⟨g6, 2, none⟩) y6.out.lt).trans (y6.out.cell 2), (hg.cell (p := ⟨g6, 3, none⟩) y6.out.lt).trans (y6.out.cell 3)]) ?_
        refine GW.call2 (eqv (.bool (newer f g))) rfl ⟨59, by kernel_rfl, by kernel_rfl, fun _ _ h => h⟩ rfl Tryd.func16 (by kernel_rfl) (by kernel_rfl) (eqv_lasts _) (kn (t := 60) (j := 13) (by kernel_rfl)) (kn (t := 61) (j := 14) (by kernel_rfl)) (fun v u w' hg hv hu => ?_) ?_
        · obtain rfl : v = _ := hv
          obtain rfl : u = _ := hu
          refine (newer_any f g w').mono ?_
          rintro e w9 ⟨rfl, hg9⟩
          exact ⟨_, rfl, rfl, hg9⟩
        refine GW.mv rfl ⟨59, by kernel_rfl, by kernel_rfl, fun _ _ h => h⟩ (.inl rfl) (kn0 (t := 8) (c := .bool true) (by kernel_rfl) rfl) (eqv_lasts _) ?_
        refine GW.bin (.bool false) rfl ⟨59, by kernel_rfl, by kernel_rfl, fun _ _ h => h⟩ rfl (kn (t := 62) (j := 15) (by kernel_rfl)) (kn (t := 63) (j := 16) (by kernel_rfl)) (fun w' => by rw [hnw]; simp [go_sem]) ?_
        refine GW.pick (b := false) rfl trivial rfl (kn (t := 59) (j := 12) (by kernel_rfl)) (kn (t := 64) (j := 17) (by kernel_rfl)) (eqv_lasts _) ?_
        refine GW.mv rfl trivial (.inl rfl) (kn (t := 65) (j := 18) (by kernel_rfl)) (eqv_lasts _) ?_
        refine GW.p1 (frmV f) rfl ⟨66, by kernel_rfl, by kernel_rfl, fun _ _ h => h⟩ (kn0 (t := 5) (c := .pointer (some ⟨g5, 0, none⟩)) (by kernel_rfl) rfl) (fun ρ w' hρ hg => by simp [execOp, hρ, go_sem, (hg.cell (p := ⟨g5, 0, none⟩) y5.out.lt).trans (y5.out.cell 0), (hg.cell (p := ⟨g5, 1, none⟩) y5.out.lt).trans (y5.out.cell 1), (hg.cell (p := ⟨g5, 2, none⟩) y5.out.lt).trans (y5.out.cell 2), (hg.cell (p := ⟨g5, 3, none⟩) y5.out.lt).trans (y5.out.cell 3)]) ?_
        refine GW.p1 (frmV g) rfl ⟨66, by kernel_rfl, by kernel_rfl, fun _ _ h => h⟩ (kn0 (t := 6) (c := .pointer (some ⟨g6, 0, none⟩)) (by kernel_rfl) rfl) (fun ρ w' hρ hg => by simp [execOp, hρ, go_sem, (hg.cell (p := ⟨g6, 0, none⟩) y6.out.lt).trans (y6.out.cell 0), (hg.cell (p := ⟨g6, 1, none⟩) y6.out.lt).trans (y6.out.cell 1), (hg.cell (p := ⟨g6, 2, none⟩) y6.out.lt).trans (y6.out.cell 2), (hg.cell (p := ⟨g6, 3, none⟩) y6.out.lt).trans (y6.out.cell 3)]) ?_
        refine GW.call2 (eqv (.bool (alike f g))) rfl ⟨66, by kernel_rfl, by kernel_rfl, fun _ _ h => h⟩ rfl Tryd.func17 (by kernel_rfl) (by kernel_rfl) (eqv_lasts _) (kn (t := 67) (j := 20) (by kernel_rfl)) (kn (t := 68) (j := 21) (by kernel_rfl)) (fun v u w' hg hv hu => ?_) ?_
        · obtain rfl : v = _ := hv
          obtain rfl : u = _ := hu
          refine (alike_any f g w').mono ?_
          rintro e w9 ⟨rfl, hg9⟩
          exact ⟨_, rfl, rfl, hg9⟩
        refine GW.p1 (.pointer (some ⟨w.heap.size, 1, none⟩)) rfl ⟨66, by kernel_rfl, by kernel_rfl, fun _ _ h => h⟩ (kn0 (t := 2) (c := .pointer (some ⟨w.heap.size, 0, none⟩)) (by kernel_rfl) rfl) (fun ρ w' hρ hg => by simp [execOp, hρ, go_sem]) ?_
        refine GW.p1 (.int .u64 (n64 f.b)) rfl ⟨66, by kernel_rfl, by kernel_rfl, fun _ _ h => h⟩ (kn (t := 70) (j := 23) (by kernel_rfl)) (fun ρ w' hρ hg => by simp [execOp, hρ, go_sem, (hg.cell (p := ⟨w.heap.size, 1, none⟩) bx.out.lt).trans (bx.out.cell 1)]) ?_
        refine GW.p1 (.pointer (some ⟨(w.heap.size + 1), 1, none⟩)) rfl ⟨66, by kernel_rfl, by kernel_rfl, fun _ _ h => h⟩ (kn0 (t := 3) (c := .pointer (some ⟨w.heap.size + 1, 0, none⟩)) (by kernel_rfl) rfl) (fun ρ w' hρ hg => by simp [execOp, hρ, go_sem]) ?_
        refine GW.p1 (.int .u64 (n64 g.b)) rfl ⟨66, by kernel_rfl, by kernel_rfl, fun _ _ h => h⟩ (kn (t := 72) (j := 25) (by kernel_rfl)) (fun ρ w' hρ hg => by simp [execOp, hρ, go_sem, (hg.cell (p := ⟨(w.heap.size + 1), 1, none⟩) by_.out.lt).trans (by_.out.cell 1)]) ?_
        refine GW.bin (.bool false) rfl ⟨66, by kernel_rfl, by kernel_rfl, fun _ _ h => h⟩ rfl (kn (t := 71) (j := 24) (by kernel_rfl)) (kn (t := 73) (j := 26) (by kernel_rfl)) (fun w' => by simp [go_sem, hbb]) ?_
        refine GW.mv rfl ⟨66, by kernel_rfl, by kernel_rfl, fun _ _ h => h⟩ (.inl rfl) (kn (t := 74) (j := 27) (by kernel_rfl)) (eqv_lasts _) ?_
        refine GW.skip rfl rfl (d := 75) (by kernel_rfl) (by kernel_rfl) (fun _ _ h => .inl h) ?_
        refine GW.skip rfl rfl (d := 75) (by kernel_rfl) (by kernel_rfl) (fun _ _ h => .inl h) ?_
        refine GW.skip rfl rfl (d := 75) (by kernel_rfl) (by kernel_rfl) (fun _ _ h => .inl h) ?_
        refine GW.skip rfl rfl (d := 75) (by kernel_rfl) (by kernel_rfl) (fun _ _ h => .inl h) ?_
        refine GW.skip rfl rfl (d := 75) (by kernel_rfl) (by kernel_rfl) (fun _ _ h => .inl h) ?_
        refine GW.pick (b := false) rfl ⟨66, by kernel_rfl, by kernel_rfl, fun _ _ h => h⟩ rfl (kn (t := 75) (j := 28) (by kernel_rfl)) (knc) (eqv_lasts _) ?_
        refine GW.bin (.bool false) rfl ⟨66, by kernel_rfl, by kernel_rfl, fun _ _ h => h⟩ rfl (kn (t := 69) (j := 22) (by kernel_rfl)) (kn (t := 81) (j := 34) (by kernel_rfl)) (fun w' => by rw [hal]; simp [go_sem]) ?_
        refine GW.pick (b := false) rfl trivial rfl (kn (t := 66) (j := 19) (by kernel_rfl)) (kn (t := 82) (j := 35) (by kernel_rfl)) (eqv_lasts _) ?_
        refine GW.done (by simp) (by kernel_rfl) (fun w' hg_ => ?_)
        intro v0 _ v1 _ v2 _ v3 _ v4 _ v5 _ v6 _ v7 _ v8 _ v9 _ v10 _ v11 _ v12 _ v13 _ v14 _ v15 _ v16 _ v17 _ v18 _ v19 _ v20 _ v21 _ v22 _ v23 _ v24 _ v25 _ v26 _ v27 _ v28 _ v29 _ v30 _ v31 _ v32 _ v33 _ v34 _ v35 _ v36 h36
        obtain rfl : v36 = (.bool false) := h36
        simp only [GFin, Act.put, List.setIfInBounds_toArray, List.set_cons_succ, List.set_cons_zero]
        have G8 := Lib.hid (Gr.trans G7.out hg_)
        have hH8 := Lib.hid (hH7.out.gr hH7.out.lt hg_)
        have rP8 := Lib.hid ((rP.out.below hg_).more hg_.size)
        have b8 := blk_more bx.out hg_
        have x0 := b8.cell 0
        have x1 := b8.cell 1
        have x2 := b8.cell 2
        have x3 := b8.cell 3
        replace b8 := Lib.hid b8
        clear hg_ G7 hH7 rP y5 y6 bx by_ hnw hal
        have hro := Lib.hid (fun w => refRight_any f w (by omega))
        cases hr : right f
        · rw [hr] at hro
          clear hgp
          go_wp2_with fail
          go_at_call 15
          refine (hro.out _).mono ?_
          rintro e w9 ⟨rfl, g9⟩
          have G9 := Lib.hid (Gr.trans G8.out g9)
          have hH9 := Lib.hid (hH8.out.gr hH8.out.lt g9)
          clear g9 G8 hH8 hro x0 x1 x2 x3
          go_wp2_with fail
          go_at_call 6
          refine (awake_any _ hH9.out).mono ?_
          rintro e w10 ⟨rfl, g10⟩
          have G10 := Lib.hid (Gr.trans G9.out g10)
          clear g10 G9 hH9
          go_wp2
          go_ret
          exact ⟨_, rfl, rfl, G10.out⟩
        · rw [hr] at hro
          have hgp' := hgp.out hr
          go_wp2_with fail
          go_at_call 15
          refine (hro.out _).mono ?_
          rintro e w9 ⟨rfl, g9⟩
          have G9 := Lib.hid (Gr.trans G8.out g9)
          have hH9 := Lib.hid (hH8.out.gr hH8.out.lt g9)
          have b9 := Lib.hid (blk_more b8.out g9)
          have hge := Lib.hid (get_any A7 c7 P w9 hpl hc7 hm7 ((rP8.out.below g9).more g9.size) hH9.out)
          rw [hgp'] at hge
          clear g9 G8 hH8 hro x0 x1 x2 x3 b8 hgp' hgp
          go_wp2_with fail
          go_at_call 7
          refine hge.out.mono ?_
          rintro e w10 ⟨rfl, g10⟩
          have g10' := g10.alloc (.cells (fc f) 26)
          have G10 := Lib.hid (Gr.trans G9.out g10')
          have hH10 := Lib.hid (hH9.out.gr hH9.out.lt g10')
          have b10 := Lib.hid (blk_more b9.out g10')
          have z10 := Lib.hid (Blk.new w10 26 (fc f))
          clear g10 g10' G9 hH9 b9 hge
          go_wp2_with fail
          go_at_call 6
          refine (awake_any _ hH10.out).mono ?_
          rintro e w11 ⟨rfl, g11⟩
          have G11 := Lib.hid (Gr.trans G10.out g11)
          have b11 := blk_more b10.out g11
          have z11 := blk_more z10.out g11
          have x0 := b11.cell 0
          have x1 := b11.cell 1
          have x2 := b11.cell 2
          have x3 := b11.cell 3
          have y0 := z11.cell 0
          have y1 := z11.cell 1
          have y2 := z11.cell 2
          have y3 := z11.cell 3
          clear g11 G10 b10 z10 b11 z11 hH10
          go_wp2_with fail
          go_at_call 10
          refine (is_same f _).mono ?_
          rintro e w12 ⟨rfl, g12⟩
          have G12 := Lib.hid (Gr.trans G11.out g12)
          clear g12 G11 x0 x1 x2 x3 y0 y1 y2 y3
          go_wp2
          go_ret
          exact ⟨_, rfl, rfl, G12.out⟩
      · have hal : alike f g = (f.n == g.n) := by unfold alike; rw [hbb]; rfl
        replace hnw := Lib.hid hnw
        replace hal := Lib.hid hal
        have e1 : decide (n64 g.b < n64 f.b) = false := decide_eq_false c1
        go_wp2
        replace hnw := hnw.out
        replace hal := hal.out
        clear x1 x2 u1 u2
        refine region_grow (by kernel_rfl) (by kernel_rfl) ?_
        refine GW.mv rfl trivial (.inl rfl) (kn0' (t := 7) (c := .slice A7 P.length c7) (by kernel_rfl) rfl (isB_lasts _) (⟨A7, c7, rfl, hc7, hm7, rP.out⟩)) (isB_lasts _) ?_
        refine GW.bs (P) rfl trivial rfl Tryd.underlying22 Vint.byteType.1 Tryd.underlying9 (kn (t := 47) (j := 0) (by kernel_rfl)) ?_
        refine GW.p1 (frmV f) rfl trivial (kn0 (t := 2) (c := .pointer (some ⟨w.heap.size, 0, none⟩)) (by kernel_rfl) rfl) (fun ρ w' hρ hg => by simp [execOp, hρ, go_sem, (hg.cell (p := ⟨w.heap.size, 0, none⟩) bx.out.lt).trans (bx.out.cell 0), (hg.cell (p := ⟨w.heap.size, 1, none⟩) bx.out.lt).trans (bx.out.cell 1), (hg.cell (p := ⟨w.heap.size, 2, none⟩) bx.out.lt).trans (bx.out.cell 2), (hg.cell (p := ⟨w.heap.size, 3, none⟩) bx.out.lt).trans (bx.out.cell 3)]) ?_
        refine GW.call1 (eqv (str P)) rfl trivial rfl Tryd.func13 (by kernel_rfl) (by kernel_rfl) (eqv_lasts _) (kn (t := 49) (j := 2) (by kernel_rfl)) (fun v w' hg hv => ?_) ?_
        · obtain rfl : v = _ := hv
          refine (refPut_any f w' (by omega)).mono ?_
          rw [hP.out]
          rintro e w9 ⟨rfl, hg9⟩
          exact ⟨_, rfl, rfl, hg9⟩
        refine GW.bin (.bool false) rfl trivial rfl (kn (t := 48) (j := 1) (by kernel_rfl)) (kn (t := 50) (j := 3) (by kernel_rfl)) (fun w' => by simp [go_sem]) ?_
        refine GW.mv rfl trivial (.inl rfl) (kn (t := 51) (j := 4) (by kernel_rfl)) (eqv_lasts _) ?_
        refine GW.p1 (frmV f) rfl ⟨52, by kernel_rfl, by kernel_rfl, fun _ _ h => h⟩ (kn0 (t := 5) (c := .pointer (some ⟨g5, 0, none⟩)) (by kernel_rfl) rfl) (fun ρ w' hρ hg => by simp [execOp, hρ, go_sem, (hg.cell (p := ⟨g5, 0, none⟩) y5.out.lt).trans (y5.out.cell 0), (hg.cell (p := ⟨g5, 1, none⟩) y5.out.lt).trans (y5.out.cell 1), (hg.cell (p := ⟨g5, 2, none⟩) y5.out.lt).trans (y5.out.cell 2), (hg.cell (p := ⟨g5, 3, none⟩) y5.out.lt).trans (y5.out.cell 3)]) ?_
        refine GW.call1 (eqv (.bool (right f))) rfl ⟨52, by kernel_rfl, by kernel_rfl, fun _ _ h => h⟩ rfl Tryd.func14 (by kernel_rfl) (by kernel_rfl) (eqv_lasts _) (kn (t := 53) (j := 6) (by kernel_rfl)) (fun v w' hg hv => ?_) ?_
        · obtain rfl : v = _ := hv
          refine (right_any f w' (by omega)).mono ?_
          rintro e w9 ⟨rfl, hg9⟩
          exact ⟨_, rfl, rfl, hg9⟩
        refine GW.p1 (frmV f) rfl ⟨52, by kernel_rfl, by kernel_rfl, fun _ _ h => h⟩ (kn0 (t := 2) (c := .pointer (some ⟨w.heap.size, 0, none⟩)) (by kernel_rfl) rfl) (fun ρ w' hρ hg => by simp [execOp, hρ, go_sem, (hg.cell (p := ⟨w.heap.size, 0, none⟩) bx.out.lt).trans (bx.out.cell 0), (hg.cell (p := ⟨w.heap.size, 1, none⟩) bx.out.lt).trans (bx.out.cell 1), (hg.cell (p := ⟨w.heap.size, 2, none⟩) bx.out.lt).trans (bx.out.cell 2), (hg.cell (p := ⟨w.heap.size, 3, none⟩) bx.out.lt).trans (bx.out.cell 3)]) ?_
        refine GW.call1 (eqv (.bool (right f))) rfl ⟨52, by kernel_rfl, by kernel_rfl, fun _ _ h => h⟩ rfl Tryd.func15 (by kernel_rfl) (by kernel_rfl) (eqv_lasts _) (kn (t := 55) (j := 8) (by kernel_rfl)) (fun v w' hg hv => ?_) ?_
        · obtain rfl : v = _ := hv
          refine (refRight_any f w' (by omega)).mono ?_
          rintro e w9 ⟨rfl, hg9⟩
          exact ⟨_, rfl, rfl, hg9⟩
        refine GW.bin (.bool false) rfl ⟨52, by kernel_rfl, by kernel_rfl, fun _ _ h => h⟩ rfl (kn (t := 54) (j := 7) (by kernel_rfl)) (kn (t := 56) (j := 9) (by kernel_rfl)) (fun w' => by cases right f <;> simp [go_sem]) ?_
        refine GW.pick (b := false) rfl trivial rfl (kn (t := 52) (j := 5) (by kernel_rfl)) (kn (t := 57) (j := 10) (by kernel_rfl)) (eqv_lasts _) ?_
        refine GW.mv rfl trivial (.inl rfl) (kn (t := 58) (j := 11) (by kernel_rfl)) (eqv_lasts _) ?_
        refine GW.p1 (frmV f) rfl ⟨59, by kernel_rfl, by kernel_rfl, fun _ _ h => h⟩ (kn0 (t := 5) (c := .pointer (some ⟨g5, 0, none⟩)) (by kernel_rfl) rfl) (fun ρ w' hρ hg => by simp [execOp, hρ, go_sem, (hg.cell (p := ⟨g5, 0, none⟩) y5.out.lt).trans (y5.out.cell 0), (hg.cell (p := ⟨g5, 1, none⟩) y5.out.lt).trans (y5.out.cell 1), (hg.cell (p := ⟨g5, 2, none⟩) y5.out.lt).trans (y5.out.cell 2), (hg.cell (p := ⟨g5, 3, none⟩) y5.out.lt).trans (y5.out.cell 3)]) ?_
        refine GW.p1 (frmV g) rfl ⟨59, by kernel_rfl, by kernel_rfl, fun _ _ h => h⟩ (kn0 (t := 6) (c := .pointer (some ⟨g6, 0, none⟩)) (by kernel_rfl) rfl) (fun ρ w' hρ hg => by simp [execOp, hρ, go_sem, (hg.cell (p := ⟨g6, 0, none⟩) y6.out.lt).trans (y6.out.cell 0), (hg.cell (p := ⟨g6, 1, none⟩) y6.out.lt).trans (y6.out.cell 1), (hg.cell (p := ⟨g6, 2, none⟩) y6.out.lt).trans (y6.out.cell 2), (hg.cell (p := ⟨g6, 3, none⟩) y6.out.lt).trans (y6.out.cell 3)]) ?_
        refine GW.call2 (eqv (.bool (newer f g))) rfl ⟨59, by kernel_rfl, by kernel_rfl, fun _ _ h => h⟩ rfl Tryd.func16 (by kernel_rfl) (by kernel_rfl) (eqv_lasts _) (kn (t := 60) (j := 13) (by kernel_rfl)) (kn (t := 61) (j := 14) (by kernel_rfl)) (fun v u w' hg hv hu => ?_) ?_
        · obtain rfl : v = _ := hv
          obtain rfl : u = _ := hu
          refine (newer_any f g w').mono ?_
          rintro e w9 ⟨rfl, hg9⟩
          exact ⟨_, rfl, rfl, hg9⟩
        refine GW.mv rfl ⟨59, by kernel_rfl, by kernel_rfl, fun _ _ h => h⟩ (.inl rfl) (kn0 (t := 8) (c := .bool true) (by kernel_rfl) rfl) (eqv_lasts _) ?_
        refine GW.bin (.bool false) rfl ⟨59, by kernel_rfl, by kernel_rfl, fun _ _ h => h⟩ rfl (kn (t := 62) (j := 15) (by kernel_rfl)) (kn (t := 63) (j := 16) (by kernel_rfl)) (fun w' => by rw [hnw]; simp [go_sem]) ?_
        refine GW.pick (b := false) rfl trivial rfl (kn (t := 59) (j := 12) (by kernel_rfl)) (kn (t := 64) (j := 17) (by kernel_rfl)) (eqv_lasts _) ?_
        refine GW.mv rfl trivial (.inl rfl) (kn (t := 65) (j := 18) (by kernel_rfl)) (eqv_lasts _) ?_
        refine GW.p1 (frmV f) rfl ⟨66, by kernel_rfl, by kernel_rfl, fun _ _ h => h⟩ (kn0 (t := 5) (c := .pointer (some ⟨g5, 0, none⟩)) (by kernel_rfl) rfl) (fun ρ w' hρ hg => by simp [execOp, hρ, go_sem, (hg.cell (p := ⟨g5, 0, none⟩) y5.out.lt).trans (y5.out.cell 0), (hg.cell (p := ⟨g5, 1, none⟩) y5.out.lt).trans (y5.out.cell 1), (hg.cell (p := ⟨g5, 2, none⟩) y5.out.lt).trans (y5.out.cell 2), (hg.cell (p := ⟨g5, 3, none⟩) y5.out.lt).trans (y5.out.cell 3)]) ?_
        refine GW.p1 (frmV g) rfl ⟨66, by kernel_rfl, by kernel_rfl, fun _ _ h => h⟩ (kn0 (t := 6) (c := .pointer (some ⟨g6, 0, none⟩)) (by kernel_rfl) rfl) (fun ρ w' hρ hg => by simp [execOp, hρ, go_sem, (hg.cell (p := ⟨g6, 0, none⟩) y6.out.lt).trans (y6.out.cell 0), (hg.cell (p := ⟨g6, 1, none⟩) y6.out.lt).trans (y6.out.cell 1), (hg.cell (p := ⟨g6, 2, none⟩) y6.out.lt).trans (y6.out.cell 2), (hg.cell (p := ⟨g6, 3, none⟩) y6.out.lt).trans (y6.out.cell 3)]) ?_
        refine GW.call2 (eqv (.bool (alike f g))) rfl ⟨66, by kernel_rfl, by kernel_rfl, fun _ _ h => h⟩ rfl Tryd.func17 (by kernel_rfl) (by kernel_rfl) (eqv_lasts _) (kn (t := 67) (j := 20) (by kernel_rfl)) (kn (t := 68) (j := 21) (by kernel_rfl)) (fun v u w' hg hv hu => ?_) ?_
        · obtain rfl : v = _ := hv
          obtain rfl : u = _ := hu
          refine (alike_any f g w').mono ?_
          rintro e w9 ⟨rfl, hg9⟩
          exact ⟨_, rfl, rfl, hg9⟩
        refine GW.p1 (.pointer (some ⟨w.heap.size, 1, none⟩)) rfl ⟨66, by kernel_rfl, by kernel_rfl, fun _ _ h => h⟩ (kn0 (t := 2) (c := .pointer (some ⟨w.heap.size, 0, none⟩)) (by kernel_rfl) rfl) (fun ρ w' hρ hg => by simp [execOp, hρ, go_sem]) ?_
        refine GW.p1 (.int .u64 (n64 f.b)) rfl ⟨66, by kernel_rfl, by kernel_rfl, fun _ _ h => h⟩ (kn (t := 70) (j := 23) (by kernel_rfl)) (fun ρ w' hρ hg => by simp [execOp, hρ, go_sem, (hg.cell (p := ⟨w.heap.size, 1, none⟩) bx.out.lt).trans (bx.out.cell 1)]) ?_
        refine GW.p1 (.pointer (some ⟨(w.heap.size + 1), 1, none⟩)) rfl ⟨66, by kernel_rfl, by kernel_rfl, fun _ _ h => h⟩ (kn0 (t := 3) (c := .pointer (some ⟨w.heap.size + 1, 0, none⟩)) (by kernel_rfl) rfl) (fun ρ w' hρ hg => by simp [execOp, hρ, go_sem]) ?_
        refine GW.p1 (.int .u64 (n64 g.b)) rfl ⟨66, by kernel_rfl, by kernel_rfl, fun _ _ h => h⟩ (kn (t := 72) (j := 25) (by kernel_rfl)) (fun ρ w' hρ hg => by simp [execOp, hρ, go_sem, (hg.cell (p := ⟨(w.heap.size + 1), 1, none⟩) by_.out.lt).trans (by_.out.cell 1)]) ?_
        refine GW.bin (.bool true) rfl ⟨66, by kernel_rfl, by kernel_rfl, fun _ _ h => h⟩ rfl (kn (t := 71) (j := 24) (by kernel_rfl)) (kn (t := 73) (j := 26) (by kernel_rfl)) (fun w' => by simp [go_sem, hbb]) ?_
        refine GW.mv rfl ⟨66, by kernel_rfl, by kernel_rfl, fun _ _ h => h⟩ (.inl rfl) (kn (t := 74) (j := 27) (by kernel_rfl)) (eqv_lasts _) ?_
        refine GW.p1 (.pointer (some ⟨w.heap.size, 2, none⟩)) rfl ⟨75, by kernel_rfl, by kernel_rfl, fun _ _ h => h⟩ (kn0 (t := 2) (c := .pointer (some ⟨w.heap.size, 0, none⟩)) (by kernel_rfl) rfl) (fun ρ w' hρ hg => by simp [execOp, hρ, go_sem]) ?_
        refine GW.p1 (.int .u64 (n64 f.n)) rfl ⟨75, by kernel_rfl, by kernel_rfl, fun _ _ h => h⟩ (kn (t := 76) (j := 29) (by kernel_rfl)) (fun ρ w' hρ hg => by simp [execOp, hρ, go_sem, (hg.cell (p := ⟨w.heap.size, 2, none⟩) bx.out.lt).trans (bx.out.cell 2)]) ?_
        refine GW.p1 (.pointer (some ⟨(w.heap.size + 1), 2, none⟩)) rfl ⟨75, by kernel_rfl, by kernel_rfl, fun _ _ h => h⟩ (kn0 (t := 3) (c := .pointer (some ⟨w.heap.size + 1, 0, none⟩)) (by kernel_rfl) rfl) (fun ρ w' hρ hg => by simp [execOp, hρ, go_sem]) ?_
        refine GW.p1 (.int .u64 (n64 g.n)) rfl ⟨75, by kernel_rfl, by kernel_rfl, fun _ _ h => h⟩ (kn (t := 78) (j := 31) (by kernel_rfl)) (fun ρ w' hρ hg => by simp [execOp, hρ, go_sem, (hg.cell (p := ⟨(w.heap.size + 1), 2, none⟩) by_.out.lt).trans (by_.out.cell 2)]) ?_
        refine GW.bin (.bool (f.n == g.n)) rfl ⟨75, by kernel_rfl, by kernel_rfl, fun _ _ h => h⟩ rfl (kn (t := 77) (j := 30) (by kernel_rfl)) (kn (t := 79) (j := 32) (by kernel_rfl)) (fun w' => by by_cases h : f.n = g.n <;> simp [go_sem, h]) ?_
        refine GW.pick (b := true) rfl ⟨66, by kernel_rfl, by kernel_rfl, fun _ _ h => h⟩ rfl (kn (t := 75) (j := 28) (by kernel_rfl)) (kn (t := 80) (j := 33) (by kernel_rfl)) (eqv_lasts _) ?_
        refine GW.bin (.bool false) rfl ⟨66, by kernel_rfl, by kernel_rfl, fun _ _ h => h⟩ rfl (kn (t := 69) (j := 22) (by kernel_rfl)) (kn (t := 81) (j := 34) (by kernel_rfl)) (fun w' => by rw [hal]; cases (f.n == g.n) <;> simp [go_sem]) ?_
        refine GW.pick (b := false) rfl trivial rfl (kn (t := 66) (j := 19) (by kernel_rfl)) (kn (t := 82) (j := 35) (by kernel_rfl)) (eqv_lasts _) ?_
        refine GW.done (by simp) (by kernel_rfl) (fun w' hg_ => ?_)
        intro v0 _ v1 _ v2 _ v3 _ v4 _ v5 _ v6 _ v7 _ v8 _ v9 _ v10 _ v11 _ v12 _ v13 _ v14 _ v15 _ v16 _ v17 _ v18 _ v19 _ v20 _ v21 _ v22 _ v23 _ v24 _ v25 _ v26 _ v27 _ v28 _ v29 _ v30 _ v31 _ v32 _ v33 _ v34 _ v35 _ v36 h36
        obtain rfl : v36 = (.bool false) := h36
        simp only [GFin, Act.put, List.setIfInBounds_toArray, List.set_cons_succ, List.set_cons_zero]
        have G8 := Lib.hid (Gr.trans G7.out hg_)
        have hH8 := Lib.hid (hH7.out.gr hH7.out.lt hg_)
        have rP8 := Lib.hid ((rP.out.below hg_).more hg_.size)
        have b8 := blk_more bx.out hg_
        have x0 := b8.cell 0
        have x1 := b8.cell 1
        have x2 := b8.cell 2
        have x3 := b8.cell 3
        replace b8 := Lib.hid b8
        clear hg_ G7 hH7 rP y5 y6 bx by_ hnw hal
        have hro := Lib.hid (fun w => refRight_any f w (by omega))
        cases hr : right f
        · rw [hr] at hro
          clear hgp
          go_wp2_with fail
          go_at_call 15
          refine (hro.out _).mono ?_
          rintro e w9 ⟨rfl, g9⟩
          have G9 := Lib.hid (Gr.trans G8.out g9)
          have hH9 := Lib.hid (hH8.out.gr hH8.out.lt g9)
          clear g9 G8 hH8 hro x0 x1 x2 x3
          go_wp2_with fail
          go_at_call 6
          refine (awake_any _ hH9.out).mono ?_
          rintro e w10 ⟨rfl, g10⟩
          have G10 := Lib.hid (Gr.trans G9.out g10)
          clear g10 G9 hH9
          go_wp2
          go_ret
          exact ⟨_, rfl, rfl, G10.out⟩
        · rw [hr] at hro
          have hgp' := hgp.out hr
          go_wp2_with fail
          go_at_call 15
          refine (hro.out _).mono ?_
          rintro e w9 ⟨rfl, g9⟩
          have G9 := Lib.hid (Gr.trans G8.out g9)
          have hH9 := Lib.hid (hH8.out.gr hH8.out.lt g9)
          have b9 := Lib.hid (blk_more b8.out g9)
          have hge := Lib.hid (get_any A7 c7 P w9 hpl hc7 hm7 ((rP8.out.below g9).more g9.size) hH9.out)
          rw [hgp'] at hge
          clear g9 G8 hH8 hro x0 x1 x2 x3 b8 hgp' hgp
          go_wp2_with fail
          go_at_call 7
          refine hge.out.mono ?_
          rintro e w10 ⟨rfl, g10⟩
          have g10' := g10.alloc (.cells (fc f) 26)
          have G10 := Lib.hid (Gr.trans G9.out g10')
          have hH10 := Lib.hid (hH9.out.gr hH9.out.lt g10')
          have b10 := Lib.hid (blk_more b9.out g10')
          have z10 := Lib.hid (Blk.new w10 26 (fc f))
          clear g10 g10' G9 hH9 b9 hge
          go_wp2_with fail
          go_at_call 6
          refine (awake_any _ hH10.out).mono ?_
          rintro e w11 ⟨rfl, g11⟩
          have G11 := Lib.hid (Gr.trans G10.out g11)
          have b11 := blk_more b10.out g11
          have z11 := blk_more z10.out g11
          have x0 := b11.cell 0
          have x1 := b11.cell 1
          have x2 := b11.cell 2
          have x3 := b11.cell 3
          have y0 := z11.cell 0
          have y1 := z11.cell 1
          have y2 := z11.cell 2
          have y3 := z11.cell 3
          clear g11 G10 b10 z10 b11 z11 hH10
          go_wp2_with fail
          go_at_call 10
          refine (is_same f _).mono ?_
          rintro e w12 ⟨rfl, g12⟩
          have G12 := Lib.hid (Gr.trans G11.out g12)
          clear g12 G11 x0 x1 x2 x3 y0 y1 y2 y3
          go_wp2
          go_ret
          exact ⟨_, rfl, rfl, G12.out⟩
      · have hal : alike f g = (f.n == g.n) := by unfold alike; rw [hbb]; rfl
        replace hnw := Lib.hid hnw
        replace hal := Lib.hid hal
        have e1 : decide (n64 g.b < n64 f.b) = false := decide_eq_false c1
        have e2 : decide (n64 g.n < n64 f.n) = false := decide_eq_false c2
        go_wp2
        replace hnw := hnw.out
        replace hal := hal.out
        clear x1 x2 u1 u2
        refine region_grow (by kernel_rfl) (by kernel_rfl) ?_
        refine GW.mv rfl trivial (.inl rfl) (kn0' (t := 7) (c := .slice A7 P.length c7) (by kernel_rfl) rfl (isB_lasts _) (⟨A7, c7, rfl, hc7, hm7, rP.out⟩)) (isB_lasts _) ?_
        refine GW.bs (P) rfl trivial rfl Tryd.underlying22 Vint.byteType.1 Tryd.underlying9 (kn (t := 47) (j := 0) (by kernel_rfl)) ?_
        refine GW.p1 (frmV f) rfl trivial (kn0 (t := 2) (c := .pointer (some ⟨w.heap.size, 0, none⟩)) (by kernel_rfl) rfl) (fun ρ w' hρ hg => by simp [execOp, hρ, go_sem, (hg.cell (p := ⟨w.heap.size, 0, none⟩) bx.out.lt).trans (bx.out.cell 0), (hg.cell (p := ⟨w.heap.size, 1, none⟩) bx.out.lt).trans (bx.out.cell 1), (hg.cell (p := ⟨w.heap.size, 2, none⟩) bx.out.lt).trans (bx.out.cell 2), (hg.cell (p := ⟨w.heap.size, 3, none⟩) bx.out.lt).trans (bx.out.cell 3)]) ?_
        refine GW.call1 (eqv (str P)) rfl trivial rfl Tryd.func13 (by kernel_rfl) (by kernel_rfl) (eqv_lasts _) (kn (t := 49) (j := 2) (by kernel_rfl)) (fun v w' hg hv => ?_) ?_
        · obtain rfl : v = _ := hv
          refine (refPut_any f w' (by omega)).mono ?_
          rw [hP.out]
          rintro e w9 ⟨rfl, hg9⟩
          exact ⟨_, rfl, rfl, hg9⟩
        refine GW.bin (.bool false) rfl trivial rfl (kn (t := 48) (j := 1) (by kernel_rfl)) (kn (t := 50) (j := 3) (by kernel_rfl)) (fun w' => by simp [go_sem]) ?_
        refine GW.mv rfl trivial (.inl rfl) (kn (t := 51) (j := 4) (by kernel_rfl)) (eqv_lasts _) ?_
        refine GW.p1 (frmV f) rfl ⟨52, by kernel_rfl, by kernel_rfl, fun _ _ h => h⟩ (kn0 (t := 5) (c := .pointer (some ⟨g5, 0, none⟩)) (by kernel_rfl) rfl) (fun ρ w' hρ hg => by simp [execOp, hρ, go_sem, (hg.cell (p := ⟨g5, 0, none⟩) y5.out.lt).trans (y5.out.cell 0), (hg.cell (p := ⟨g5, 1, none⟩) y5.out.lt).trans (y5.out.cell 1), (hg.cell (p := ⟨g5, 2, none⟩) y5.out.lt).trans (y5.out.cell 2), (hg.cell (p := ⟨g5, 3, none⟩) y5.out.lt).trans (y5.out.cell 3)]) ?_
        refine GW.call1 (eqv (.bool (right f))) rfl ⟨52, by kernel_rfl, by kernel_rfl, fun _ _ h => h⟩ rfl Tryd.func14 (by kernel_rfl) (by kernel_rfl) (eqv_lasts _) (kn (t := 53) (j := 6) (by kernel_rfl)) (fun v w' hg hv => ?_) ?_
        · obtain rfl : v = _ := hv
          refine (right_any f w' (by omega)).mono ?_
          rintro e w9 ⟨rfl, hg9⟩
          exact ⟨_, rfl, rfl, hg9⟩
        refine GW.p1 (frmV f) rfl ⟨52, by kernel_rfl, by kernel_rfl, fun _ _ h => h⟩ (kn0 (t := 2) (c := .pointer (some ⟨w.heap.size, 0, none⟩)) (by kernel_rfl) rfl) (fun ρ w' hρ hg => by simp [execOp, hρ, go_sem, (hg.cell (p := ⟨w.heap.size, 0, none⟩) bx.out.lt).trans (bx.out.cell 0), (hg.cell (p := ⟨w.heap.size, 1, none⟩) bx.out.lt).trans (bx.out.cell 1), (hg.cell (p := ⟨w.heap.size, 2, none⟩) bx.out.lt).trans (bx.out.cell 2), (hg.cell (p := ⟨w.heap.size, 3, none⟩) bx.out.lt).trans (bx.out.cell 3)]) ?_
        refine GW.call1 (eqv (.bool (right f))) rfl ⟨52, by kernel_rfl, by kernel_rfl, fun _ _ h => h⟩ rfl Tryd.func15 (by kernel_rfl) (by kernel_rfl) (eqv_lasts _) (kn (t := 55) (j := 8) (by kernel_rfl)) (fun v w' hg hv => ?_) ?_
        · obtain rfl : v = _ := hv
          refine (refRight_any f w' (by omega)).mono ?_
          rintro e w9 ⟨rfl, hg9⟩
          exact ⟨_, rfl, rfl, hg9⟩
        refine GW.bin (.bool false) rfl ⟨52, by kernel_rfl, by kernel_rfl, fun _ _ h => h⟩ rfl (kn (t := 54) (j := 7) (by kernel_rfl)) (kn (t := 56) (j := 9) (by kernel_rfl)) (fun w' => by cases right f <;> simp [go_sem]) ?_
        refine GW.pick (b := false) rfl trivial rfl (kn (t := 52) (j := 5) (by kernel_rfl)) (kn (t := 57) (j := 10) (by kernel_rfl)) (eqv_lasts _) ?_
        refine GW.mv rfl trivial (.inl rfl) (kn (t := 58) (j := 11) (by kernel_rfl)) (eqv_lasts _) ?_
        refine GW.p1 (frmV f) rfl ⟨59, by kernel_rfl, by kernel_rfl, fun _ _ h => h⟩ (kn0 (t := 5) (c := .pointer (some ⟨g5, 0, none⟩)) (by kernel_rfl) rfl) (fun ρ w' hρ hg => by simp [execOp, hρ, go_sem, (hg.cell (p := ⟨g5, 0, none⟩) y5.out.lt).trans (y5.out.cell 0), (hg.cell (p := ⟨g5, 1, none⟩) y5.out.lt).trans (y5.out.cell 1), (hg.cell (p := ⟨g5, 2, none⟩) y5.out.lt).trans (y5.out.cell 2), (hg.cell (p := ⟨g5, 3, none⟩) y5.out.lt).trans (y5.out.cell 3)]) ?_
        refine GW.p1 (frmV g) rfl ⟨59, by kernel_rfl, by kernel_rfl, fun _ _ h => h⟩ (kn0 (t := 6) (c := .pointer (some ⟨g6, 0, none⟩)) (by kernel_rfl) rfl) (fun ρ w' hρ hg => by simp [execOp, hρ, go_sem, (hg.cell (p := ⟨g6, 0, none⟩) y6.out.lt).trans (y6.out.cell 0), (hg.cell (p := ⟨g6, 1, none⟩) y6.out.lt).trans (y6.out.cell 1), (hg.cell (p := ⟨g6, 2, none⟩) y6.out.lt).trans (y6.out.cell 2), (hg.cell (p := ⟨g6, 3, none⟩) y6.out.lt).trans (y6.out.cell 3)]) ?_
        refine GW.call2 (eqv (.bool (newer f g))) rfl ⟨59, by kernel_rfl, by kernel_rfl, fun _ _ h => h⟩ rfl Tryd.func16 (by kernel_rfl) (by kernel_rfl) (eqv_lasts _) (kn (t := 60) (j := 13) (by kernel_rfl)) (kn (t := 61) (j := 14) (by kernel_rfl)) (fun v u w' hg hv hu => ?_) ?_
        · obtain rfl : v = _ := hv
          obtain rfl : u = _ := hu
          refine (newer_any f g w').mono ?_
          rintro e w9 ⟨rfl, hg9⟩
          exact ⟨_, rfl, rfl, hg9⟩
        refine GW.mv rfl ⟨59, by kernel_rfl, by kernel_rfl, fun _ _ h => h⟩ (.inl rfl) (kn0 (t := 8) (c := .bool false) (by kernel_rfl) rfl) (eqv_lasts _) ?_
        refine GW.bin (.bool false) rfl ⟨59, by kernel_rfl, by kernel_rfl, fun _ _ h => h⟩ rfl (kn (t := 62) (j := 15) (by kernel_rfl)) (kn (t := 63) (j := 16) (by kernel_rfl)) (fun w' => by rw [hnw]; simp [go_sem]) ?_
        refine GW.pick (b := false) rfl trivial rfl (kn (t := 59) (j := 12) (by kernel_rfl)) (kn (t := 64) (j := 17) (by kernel_rfl)) (eqv_lasts _) ?_
        refine GW.mv rfl trivial (.inl rfl) (kn (t := 65) (j := 18) (by kernel_rfl)) (eqv_lasts _) ?_
        refine GW.p1 (frmV f) rfl ⟨66, by kernel_rfl, by kernel_rfl, fun _ _ h => h⟩ (kn0 (t := 5) (c := .pointer (some ⟨g5, 0, none⟩)) (by kernel_rfl) rfl) (fun ρ w' hρ hg => by simp [execOp, hρ, go_sem, (hg.cell (p := ⟨g5, 0, none⟩) y5.out.lt).trans (y5.out.cell 0), (hg.cell (p := ⟨g5, 1, none⟩) y5.out.lt).trans (y5.out.cell 1), (hg.cell (p := ⟨g5, 2, none⟩) y5.out.lt).trans (y5.out.cell 2), (hg.cell (p := ⟨g5, 3, none⟩) y5.out.lt).trans (y5.out.cell 3)]) ?_
        refine GW.p1 (frmV g) rfl ⟨66, by kernel_rfl, by kernel_rfl, fun _ _ h => h⟩ (kn0 (t := 6) (c := .pointer (some ⟨g6, 0, none⟩)) (by kernel_rfl) rfl) (fun ρ w' hρ hg => by simp [execOp, hρ, go_sem, (hg.cell (p := ⟨g6, 0, none⟩) y6.out.lt).trans (y6.out.cell 0), (hg.cell (p := ⟨g6, 1, none⟩) y6.out.lt).trans (y6.out.cell 1), (hg.cell (p := ⟨g6, 2, none⟩) y6.out.lt).trans (y6.out.cell 2), (hg.cell (p := ⟨g6, 3, none⟩) y6.out.lt).trans (y6.out.cell 3)]) ?_
        refine GW.call2 (eqv (.bool (alike f g))) rfl ⟨66, by kernel_rfl, by kernel_rfl, fun _ _ h => h⟩ rfl Tryd.func17 (by kernel_rfl) (by kernel_rfl) (eqv_lasts _) (kn (t := 67) (j := 20) (by kernel_rfl)) (kn (t := 68) (j := 21) (by kernel_rfl)) (fun v u w' hg hv hu => ?_) ?_
        · obtain rfl : v = _ := hv
          obtain rfl : u = _ := hu
          refine (alike_any f g w').mono ?_
          rintro e w9 ⟨rfl, hg9⟩
          exact ⟨_, rfl, rfl, hg9⟩
        refine GW.p1 (.pointer (some ⟨w.heap.size, 1, none⟩)) rfl ⟨66, by kernel_rfl, by kernel_rfl, fun _ _ h => h⟩ (kn0 (t := 2) (c := .pointer (some ⟨w.heap.size, 0, none⟩)) (by kernel_rfl) rfl) (fun ρ w' hρ hg => by simp [execOp, hρ, go_sem]) ?_
        refine GW.p1 (.int .u64 (n64 f.b)) rfl ⟨66, by kernel_rfl, by kernel_rfl, fun _ _ h => h⟩ (kn (t := 70) (j := 23) (by kernel_rfl)) (fun ρ w' hρ hg => by simp [execOp, hρ, go_sem, (hg.cell (p := ⟨w.heap.size, 1, none⟩) bx.out.lt).trans (bx.out.cell 1)]) ?_
        refine GW.p1 (.pointer (some ⟨(w.heap.size + 1), 1, none⟩)) rfl ⟨66, by kernel_rfl, by kernel_rfl, fun _ _ h => h⟩ (kn0 (t := 3) (c := .pointer (some ⟨w.heap.size + 1, 0, none⟩)) (by kernel_rfl) rfl) (fun ρ w' hρ hg => by simp [execOp, hρ, go_sem]) ?_
        refine GW.p1 (.int .u64 (n64 g.b)) rfl ⟨66, by kernel_rfl, by kernel_rfl, fun _ _ h => h⟩ (kn (t := 72) (j := 25) (by kernel_rfl)) (fun ρ w' hρ hg => by simp [execOp, hρ, go_sem, (hg.cell (p := ⟨(w.heap.size + 1), 1, none⟩) by_.out.lt).trans (by_.out.cell 1)]) ?_
        refine GW.bin (.bool true) rfl ⟨66, by kernel_rfl, by kernel_rfl, fun _ _ h => h⟩ rfl (kn (t := 71) (j := 24) (by kernel_rfl)) (kn (t := 73) (j := 26) (by kernel_rfl)) (fun w' => by simp [go_sem, hbb]) ?_
        refine GW.mv rfl ⟨66, by kernel_rfl, by kernel_rfl, fun _ _ h => h⟩ (.inl rfl) (kn (t := 74) (j := 27) (by kernel_rfl)) (eqv_lasts _) ?_
        refine GW.p1 (.pointer (some ⟨w.heap.size, 2, none⟩)) rfl ⟨75, by kernel_rfl, by kernel_rfl, fun _ _ h => h⟩ (kn0 (t := 2) (c := .pointer (some ⟨w.heap.size, 0, none⟩)) (by kernel_rfl) rfl) (fun ρ w' hρ hg => by simp [execOp, hρ, go_sem]) ?_
        refine GW.p1 (.int .u64 (n64 f.n)) rfl ⟨75, by kernel_rfl, by kernel_rfl, fun _ _ h => h⟩ (kn (t := 76) (j := 29) (by kernel_rfl)) (fun ρ w' hρ hg => by simp [execOp, hρ, go_sem, (hg.cell (p := ⟨w.heap.size, 2, none⟩) bx.out.lt).trans (bx.out.cell 2)]) ?_
        refine GW.p1 (.pointer (some ⟨(w.heap.size + 1), 2, none⟩)) rfl ⟨75, by kernel_rfl, by kernel_rfl, fun _ _ h => h⟩ (kn0 (t := 3) (c := .pointer (some ⟨w.heap.size + 1, 0, none⟩)) (by kernel_rfl) rfl) (fun ρ w' hρ hg => by simp [execOp, hρ, go_sem]) ?_
        refine GW.p1 (.int .u64 (n64 g.n)) rfl ⟨75, by kernel_rfl, by kernel_rfl, fun _ _ h => h⟩ (kn (t := 78) (j := 31) (by kernel_rfl)) (fun ρ w' hρ hg => by simp [execOp, hρ, go_sem, (hg.cell (p := ⟨(w.heap.size + 1), 2, none⟩) by_.out.lt).trans (by_.out.cell 2)]) ?_
        refine GW.bin (.bool (f.n == g.n)) rfl ⟨75, by kernel_rfl, by kernel_rfl, fun _ _ h => h⟩ rfl (kn (t := 77) (j := 30) (by kernel_rfl)) (kn (t := 79) (j := 32) (by kernel_rfl)) (fun w' => by by_cases h : f.n = g.n <;> simp [go_sem, h]) ?_
        refine GW.pick (b := true) rfl ⟨66, by kernel_rfl, by kernel_rfl, fun _ _ h => h⟩ rfl (kn (t := 75) (j := 28) (by kernel_rfl)) (kn (t := 80) (j := 33) (by kernel_rfl)) (eqv_lasts _) ?_
        refine GW.bin (.bool false) rfl ⟨66, by kernel_rfl, by kernel_rfl, fun _ _ h => h⟩ rfl (kn (t := 69) (j := 22) (by kernel_rfl)) (kn (t := 81) (j := 34) (by kernel_rfl)) (fun w' => by rw [hal]; cases (f.n == g.n) <;> simp [go_sem]) ?_
        refine GW.pick (b := false) rfl trivial rfl (kn (t := 66) (j := 19) (by kernel_rfl)) (kn (t := 82) (j := 35) (by kernel_rfl)) (eqv_lasts _) ?_
        refine GW.done (by simp) (by kernel_rfl) (fun w' hg_ => ?_)
        intro v0 _ v1 _ v2 _ v3 _ v4 _ v5 _ v6 _ v7 _ v8 _ v9 _ v10 _ v11 _ v12 _ v13 _ v14 _ v15 _ v16 _ v17 _ v18 _ v19 _ v20 _ v21 _ v22 _ v23 _ v24 _ v25 _ v26 _ v27 _ v28 _ v29 _ v30 _ v31 _ v32 _ v33 _ v34 _ v35 _ v36 h36
        obtain rfl : v36 = (.bool false) := h36
        simp only [GFin, Act.put, List.setIfInBounds_toArray, List.set_cons_succ, List.set_cons_zero]
        have G8 := Lib.hid (Gr.trans G7.out hg_)
        have hH8 := Lib.hid (hH7.out.gr hH7.out.lt hg_)
        have rP8 := Lib.hid ((rP.out.below hg_).more hg_.size)
        have b8 := blk_more bx.out hg_
        have x0 := b8.cell 0
        have x1 := b8.cell 1
        have x2 := b8.cell 2
        have x3 := b8.cell 3
        replace b8 := Lib.hid b8
        clear hg_ G7 hH7 rP y5 y6 bx by_ hnw hal
        have hro := Lib.hid (fun w => refRight_any f w (by omega))
        cases hr : right f
        · rw [hr] at hro
          clear hgp
          go_wp2_with fail
          go_at_call 15
          refine (hro.out _).mono ?_
          rintro e w9 ⟨rfl, g9⟩
          have G9 := Lib.hid (Gr.trans G8.out g9)
          have hH9 := Lib.hid (hH8.out.gr hH8.out.lt g9)
          clear g9 G8 hH8 hro x0 x1 x2 x3
          go_wp2_with fail
          go_at_call 6
          refine (awake_any _ hH9.out).mono ?_
          rintro e w10 ⟨rfl, g10⟩
          have G10 := Lib.hid (Gr.trans G9.out g10)
          clear g10 G9 hH9
          go_wp2
          go_ret
          exact ⟨_, rfl, rfl, G10.out⟩
        · rw [hr] at hro
          have hgp' := hgp.out hr
          go_wp2_with fail
          go_at_call 15
          refine (hro.out _).mono ?_
          rintro e w9 ⟨rfl, g9⟩
          have G9 := Lib.hid (Gr.trans G8.out g9)
          have hH9 := Lib.hid (hH8.out.gr hH8.out.lt g9)
          have b9 := Lib.hid (blk_more b8.out g9)
          have hge := Lib.hid (get_any A7 c7 P w9 hpl hc7 hm7 ((rP8.out.below g9).more g9.size) hH9.out)
          rw [hgp'] at hge
          clear g9 G8 hH8 hro x0 x1 x2 x3 b8 hgp' hgp
          go_wp2_with fail
          go_at_call 7
          refine hge.out.mono ?_
          rintro e w10 ⟨rfl, g10⟩
          have g10' := g10.alloc (.cells (fc f) 26)
          have G10 := Lib.hid (Gr.trans G9.out g10')
          have hH10 := Lib.hid (hH9.out.gr hH9.out.lt g10')
          have b10 := Lib.hid (blk_more b9.out g10')
          have z10 := Lib.hid (Blk.new w10 26 (fc f))
          clear g10 g10' G9 hH9 b9 hge
          go_wp2_with fail
          go_at_call 6
          refine (awake_any _ hH10.out).mono ?_
          rintro e w11 ⟨rfl, g11⟩
          have G11 := Lib.hid (Gr.trans G10.out g11)
          have b11 := blk_more b10.out g11
          have z11 := blk_more z10.out g11
          have x0 := b11.cell 0
          have x1 := b11.cell 1
          have x2 := b11.cell 2
          have x3 := b11.cell 3
          have y0 := z11.cell 0
          have y1 := z11.cell 1
          have y2 := z11.cell 2
          have y3 := z11.cell 3
          clear g11 G10 b10 z10 b11 z11 hH10
          go_wp2_with fail
          go_at_call 10
          refine (is_same f _).mono ?_
          rintro e w12 ⟨rfl, g12⟩
          have G12 := Lib.hid (Gr.trans G11.out g12)
          clear g12 G11 x0 x1 x2 x3 y0 y1 y2 y3
          go_wp2
          go_ret
          exact ⟨_, rfl, rfl, G12.out⟩
      · have hal : alike f g = false := by unfold alike; rw [hbb]; rfl
        replace hnw := Lib.hid hnw
        replace hal := Lib.hid hal
        have e1 : decide (n64 g.b < n64 f.b) = false := decide_eq_false c1
        go_wp2
        replace hnw := hnw.out
        replace hal := hal.out
        clear x1 x2 u1 u2
        refine region_grow (by kernel_rfl) (by kernel_rfl) ?_
        refine GW.mv rfl trivial (.inl rfl) (kn0' (t := 7) (c := .slice A7 P.length c7) (by kernel_rfl) rfl (isB_lasts _) (⟨A7, c7, rfl, hc7, hm7, rP.out⟩)) (isB_lasts _) ?_
        refine GW.bs (P) rfl trivial rfl Tryd.underlying22 Vint.byteType.1 Tryd.underlying9 (kn (t := 47) (j := 0) (by kernel_rfl)) ?_
        refine GW.p1 (frmV f) rfl trivial (kn0 (t := 2) (c := .pointer (some ⟨w.heap.size, 0, none⟩)) (by kernel_rfl) rfl) (fun ρ w' hρ hg => by simp [execOp, hρ, go_sem, (hg.cell (p := ⟨w.heap.size, 0, none⟩) bx.out.lt).trans (bx.out.cell 0), (hg.cell (p := ⟨w.heap.size, 1, none⟩) bx.out.lt).trans (bx.out.cell 1), (hg.cell (p := ⟨w.heap.size, 2, none⟩) bx.out.lt).trans (bx.out.cell 2), (hg.cell (p := ⟨w.heap.size, 3, none⟩) bx.out.lt).trans (bx.out.cell 3)]) ?_
        refine GW.call1 (eqv (str P)) rfl trivial rfl Tryd.func13 (by kernel_rfl) (by kernel_rfl) (eqv_lasts _) (kn (t := 49) (j := 2) (by kernel_rfl)) (fun v w' hg hv => ?_) ?_
        · obtain rfl : v = _ := hv
          refine (refPut_any f w' (by omega)).mono ?_
          rw [hP.out]
          rintro e w9 ⟨rfl, hg9⟩
          exact ⟨_, rfl, rfl, hg9⟩
        refine GW.bin (.bool false) rfl trivial rfl (kn (t := 48) (j := 1) (by kernel_rfl)) (kn (t := 50) (j := 3) (by kernel_rfl)) (fun w' => by simp [go_sem]) ?_
        refine GW.mv rfl trivial (.inl rfl) (kn (t := 51) (j := 4) (by kernel_rfl)) (eqv_lasts _) ?_
        refine GW.p1 (frmV f) rfl ⟨52, by kernel_rfl, by kernel_rfl, fun _ _ h => h⟩ (kn0 (t := 5) (c := .pointer (some ⟨g5, 0, none⟩)) (by kernel_rfl) rfl) (fun ρ w' hρ hg => by simp [execOp, hρ, go_sem, (hg.cell (p := ⟨g5, 0, none⟩) y5.out.lt).trans (y5.out.cell 0), (hg.cell (p := ⟨g5, 1, none⟩) y5.out.lt).trans (y5.out.cell 1), (hg.cell (p := ⟨g5, 2, none⟩) y5.out.lt).trans (y5.out.cell 2), (hg.cell (p := ⟨g5, 3, none⟩) y5.out.lt).trans (y5.out.cell 3)]) ?_
        refine GW.call1 (eqv (.bool (right f))) rfl ⟨52, by kernel_rfl, by kernel_rfl, fun _ _ h => h⟩ rfl Tryd.func14 (by kernel_rfl) (by kernel_rfl) (eqv_lasts _) (kn (t := 53) (j := 6) (by kernel_rfl)) (fun v w' hg hv => ?_) ?_
        · obtain rfl : v = _ := hv
          refine (right_any f w' (by omega)).mono ?_
          rintro e w9 ⟨rfl, hg9⟩
          exact ⟨_, rfl, rfl, hg9⟩
        refine GW.p1 (frmV f) rfl ⟨52, by kernel_rfl, by kernel_rfl, fun _ _ h => h⟩ (kn0 (t := 2) (c := .pointer (some ⟨w.heap.size, 0, none⟩)) (by kernel_rfl) rfl) (fun ρ w' hρ hg => by simp [execOp, hρ, go_sem, (hg.cell (p := ⟨w.heap.size, 0, none⟩) bx.out.lt).trans (bx.out.cell 0), (hg.cell (p := ⟨w.heap.size, 1, none⟩) bx.out.lt).trans (bx.out.cell 1), (hg.cell (p := ⟨w.heap.size, 2, none⟩) bx.out.lt).trans (bx.out.cell 2), (hg.cell (p := ⟨w.heap.size, 3, none⟩) bx.out.lt).trans (bx.out.cell 3)]) ?_
        refine GW.call1 (eqv (.bool (right f))) rfl ⟨52, by kernel_rfl, by kernel_rfl, fun _ _ h => h⟩ rfl Tryd.func15 (by kernel_rfl) (by kernel_rfl) (eqv_lasts _) (kn (t := 55) (j := 8) (by kernel_rfl)) (fun v w' hg hv => ?_) ?_
        · obtain rfl : v = _ := hv
          refine (refRight_any f w' (by omega)).mono ?_
          rintro e w9 ⟨rfl, hg9⟩
          exact ⟨_, rfl, rfl, hg9⟩
        refine GW.bin (.bool false) rfl ⟨52, by kernel_rfl, by kernel_rfl, fun _ _ h => h⟩ rfl (kn (t := 54) (j := 7) (by kernel_rfl)) (kn (t := 56) (j := 9) (by kernel_rfl)) (fun w' => by cases right f <;> simp [go_sem]) ?_
        refine GW.pick (b := false) rfl trivial rfl (kn (t := 52) (j := 5) (by kernel_rfl)) (kn (t := 57) (j := 10) (by kernel_rfl)) (eqv_lasts _) ?_
        refine GW.mv rfl trivial (.inl rfl) (kn (t := 58) (j := 11) (by kernel_rfl)) (eqv_lasts _) ?_
        refine GW.p1 (frmV f) rfl ⟨59, by kernel_rfl, by kernel_rfl, fun _ _ h => h⟩ (kn0 (t := 5) (c := .pointer (some ⟨g5, 0, none⟩)) (by kernel_rfl) rfl) (fun ρ w' hρ hg => by simp [execOp, hρ, go_sem, (hg.cell (p := ⟨g5, 0, none⟩) y5.out.lt).trans (y5.out.cell 0), (hg.cell (p := ⟨g5, 1, none⟩) y5.out.lt).trans (y5.out.cell 1), (hg.cell (p := ⟨g5, 2, none⟩) y5.out.lt).trans (y5.out.cell 2), (hg.cell (p := ⟨g5, 3, none⟩) y5.out.lt).trans (y5.out.cell 3)]) ?_
        refine GW.p1 (frmV g) rfl ⟨59, by kernel_rfl, by kernel_rfl, fun _ _ h => h⟩ (kn0 (t := 6) (c := .pointer (some ⟨g6, 0, none⟩)) (by kernel_rfl) rfl) (fun ρ w' hρ hg => by simp [execOp, hρ, go_sem, (hg.cell (p := ⟨g6, 0, none⟩) y6.out.lt).trans (y6.out.cell 0), (hg.cell (p := ⟨g6, 1, none⟩) y6.out.lt).trans (y6.out.cell 1), (hg.cell (p := ⟨g6, 2, none⟩) y6.out.lt).trans (y6.out.cell 2), (hg.cell (p := ⟨g6, 3, none⟩) y6.out.lt).trans (y6.out.cell 3)]) ?_
        refine GW.call2 (eqv (.bool (newer f g))) rfl ⟨59, by kernel_rfl, by kernel_rfl, fun _ _ h => h⟩ rfl Tryd.func16 (by kernel_rfl) (by kernel_rfl) (eqv_lasts _) (kn (t := 60) (j := 13) (by kernel_rfl)) (kn (t := 61) (j := 14) (by kernel_rfl)) (fun v u w' hg hv hu => ?_) ?_
        · obtain rfl : v = _ := hv
          obtain rfl : u = _ := hu
          refine (newer_any f g w').mono ?_
          rintro e w9 ⟨rfl, hg9⟩
          exact ⟨_, rfl, rfl, hg9⟩
        refine GW.mv rfl ⟨59, by kernel_rfl, by kernel_rfl, fun _ _ h => h⟩ (.inl rfl) (kn0 (t := 8) (c := .bool false) (by kernel_rfl) rfl) (eqv_lasts _) ?_
        refine GW.bin (.bool false) rfl ⟨59, by kernel_rfl, by kernel_rfl, fun _ _ h => h⟩ rfl (kn (t := 62) (j := 15) (by kernel_rfl)) (kn (t := 63) (j := 16) (by kernel_rfl)) (fun w' => by rw [hnw]; simp [go_sem]) ?_
        refine GW.pick (b := false) rfl trivial rfl (kn (t := 59) (j := 12) (by kernel_rfl)) (kn (t := 64) (j := 17) (by kernel_rfl)) (eqv_lasts _) ?_
        refine GW.mv rfl trivial (.inl rfl) (kn (t := 65) (j := 18) (by kernel_rfl)) (eqv_lasts _) ?_
        refine GW.p1 (frmV f) rfl ⟨66, by kernel_rfl, by kernel_rfl, fun _ _ h => h⟩ (kn0 (t := 5) (c := .pointer (some ⟨g5, 0, none⟩)) (by kernel_rfl) rfl) (fun ρ w' hρ hg => by simp [execOp, hρ, go_sem, (hg.cell (p := ⟨g5, 0, none⟩) y5.out.lt).trans (y5.out.cell 0), (hg.cell (p := ⟨g5, 1, none⟩) y5.out.lt).trans (y5.out.cell 1), (hg.cell (p := ⟨g5, 2, none⟩) y5.out.lt).trans (y5.out.cell 2), (hg.cell (p := ⟨g5, 3, none⟩) y5.out.lt).trans (y5.out.cell 3)]) ?_
        refine GW.p1 (frmV g) rfl ⟨66, by kernel_rfl, by kernel_rfl, fun _ _ h => h⟩ (kn0 (t := 6) (c := .pointer (some ⟨g6, 0, none⟩)) (by kernel_rfl) rfl) (fun ρ w' hρ hg => by simp [execOp, hρ, go_sem, (hg.cell (p := ⟨g6, 0, none⟩) y6.out.lt).trans (y6.out.cell 0), (hg.cell (p := ⟨g6, 1, none⟩) y6.out.lt).trans (y6.out.cell 1), (hg.cell (p := ⟨g6, 2, none⟩) y6.out.lt).trans (y6.out.cell 2), (hg.cell (p := ⟨g6, 3, none⟩) y6.out.lt).trans (y6.out.cell 3)]) ?_
        refine GW.call2 (eqv (.bool (alike f g))) rfl ⟨66, by kernel_rfl, by kernel_rfl, fun _ _ h => h⟩ rfl Tryd.func17 (by kernel_rfl) (by kernel_rfl) (eqv_lasts _) (kn (t := 67) (j := 20) (by kernel_rfl)) (kn (t := 68) (j := 21) (by kernel_rfl)) (fun v u w' hg hv hu => ?_) ?_
        · obtain rfl : v = _ := hv
          obtain rfl : u = _ := hu
          refine (alike_any f g w').mono ?_
          rintro e w9 ⟨rfl, hg9⟩
          exact ⟨_, rfl, rfl, hg9⟩
        refine GW.p1 (.pointer (some ⟨w.heap.size, 1, none⟩)) rfl ⟨66, by kernel_rfl, by kernel_rfl, fun _ _ h => h⟩ (kn0 (t := 2) (c := .pointer (some ⟨w.heap.size, 0, none⟩)) (by kernel_rfl) rfl) (fun ρ w' hρ hg => by simp [execOp, hρ, go_sem]) ?_
        refine GW.p1 (.int .u64 (n64 f.b)) rfl ⟨66, by kernel_rfl, by kernel_rfl, fun _ _ h => h⟩ (kn (t := 70) (j := 23) (by kernel_rfl)) (fun ρ w' hρ hg => by simp [execOp, hρ, go_sem, (hg.cell (p := ⟨w.heap.size, 1, none⟩) bx.out.lt).trans (bx.out.cell 1)]) ?_
        refine GW.p1 (.pointer (some ⟨(w.heap.size + 1), 1, none⟩)) rfl ⟨66, by kernel_rfl, by kernel_rfl, fun _ _ h => h⟩ (kn0 (t := 3) (c := .pointer (some ⟨w.heap.size + 1, 0, none⟩)) (by kernel_rfl) rfl) (fun ρ w' hρ hg => by simp [execOp, hρ, go_sem]) ?_
        refine GW.p1 (.int .u64 (n64 g.b)) rfl ⟨66, by kernel_rfl, by kernel_rfl, fun _ _ h => h⟩ (kn (t := 72) (j := 25) (by kernel_rfl)) (fun ρ w' hρ hg => by simp [execOp, hρ, go_sem, (hg.cell (p := ⟨(w.heap.size + 1), 1, none⟩) by_.out.lt).trans (by_.out.cell 1)]) ?_
        refine GW.bin (.bool false) rfl ⟨66, by kernel_rfl, by kernel_rfl, fun _ _ h => h⟩ rfl (kn (t := 71) (j := 24) (by kernel_rfl)) (kn (t := 73) (j := 26) (by kernel_rfl)) (fun w' => by simp [go_sem, hbb]) ?_
        refine GW.mv rfl ⟨66, by kernel_rfl, by kernel_rfl, fun _ _ h => h⟩ (.inl rfl) (kn (t := 74) (j := 27) (by kernel_rfl)) (eqv_lasts _) ?_
        refine GW.skip rfl rfl (d := 75) (by kernel_rfl) (by kernel_rfl) (fun _ _ h => .inl h) ?_
        refine GW.skip rfl rfl (d := 75) (by kernel_rfl) (by kernel_rfl) (fun _ _ h => .inl h) ?_
        refine GW.skip rfl rfl (d := 75) (by kernel_rfl) (by kernel_rfl) (fun _ _ h => .inl h) ?_
        refine GW.skip rfl rfl (d := 75) (by kernel_rfl) (by kernel_rfl) (fun _ _ h => .inl h) ?_
        refine GW.skip rfl rfl (d := 75) (by kernel_rfl) (by kernel_rfl) (fun _ _ h => .inl h) ?_
        refine GW.pick (b := false) rfl ⟨66, by kernel_rfl, by kernel_rfl, fun _ _ h => h⟩ rfl (kn (t := 75) (j := 28) (by kernel_rfl)) (knc) (eqv_lasts _) ?_
        refine GW.bin (.bool false) rfl ⟨66, by kernel_rfl, by kernel_rfl, fun _ _ h => h⟩ rfl (kn (t := 69) (j := 22) (by kernel_rfl)) (kn (t := 81) (j := 34) (by kernel_rfl)) (fun w' => by rw [hal]; simp [go_sem]) ?_
        refine GW.pick (b := false) rfl trivial rfl (kn (t := 66) (j := 19) (by kernel_rfl)) (kn (t := 82) (j := 35) (by kernel_rfl)) (eqv_lasts _) ?_
        refine GW.done (by simp) (by kernel_rfl) (fun w' hg_ => ?_)
        intro v0 _ v1 _ v2 _ v3 _ v4 _ v5 _ v6 _ v7 _ v8 _ v9 _ v10 _ v11 _ v12 _ v13 _ v14 _ v15 _ v16 _ v17 _ v18 _ v19 _ v20 _ v21 _ v22 _ v23 _ v24 _ v25 _ v26 _ v27 _ v28 _ v29 _ v30 _ v31 _ v32 _ v33 _ v34 _ v35 _ v36 h36
        obtain rfl : v36 = (.bool false) := h36
        simp only [GFin, Act.put, List.setIfInBounds_toArray, List.set_cons_succ, List.set_cons_zero]
        have G8 := Lib.hid (Gr.trans G7.out hg_)
        have hH8 := Lib.hid (hH7.out.gr hH7.out.lt hg_)
        have rP8 := Lib.hid ((rP.out.below hg_).more hg_.size)
        have b8 := blk_more bx.out hg_
        have x0 := b8.cell 0
        have x1 := b8.cell 1
        have x2 := b8.cell 2
        have x3 := b8.cell 3
        replace b8 := Lib.hid b8
        clear hg_ G7 hH7 rP y5 y6 bx by_ hnw hal
        have hro := Lib.hid (fun w => refRight_any f w (by omega))
        cases hr : right f
        · rw [hr] at hro
          clear hgp
          go_wp2_with fail
          go_at_call 15
          refine (hro.out _).mono ?_
          rintro e w9 ⟨rfl, g9⟩
          have G9 := Lib.hid (Gr.trans G8.out g9)
          have hH9 := Lib.hid (hH8.out.gr hH8.out.lt g9)
          clear g9 G8 hH8 hro x0 x1 x2 x3
          go_wp2_with fail
          go_at_call 6
          refine (awake_any _ hH9.out).mono ?_
          rintro e w10 ⟨rfl, g10⟩
          have G10 := Lib.hid (Gr.trans G9.out g10)
          clear g10 G9 hH9
          go_wp2
          go_ret
          exact ⟨_, rfl, rfl, G10.out⟩
        · rw [hr] at hro
          have hgp' := hgp.out hr
          go_wp2_with fail
          go_at_call 15
          refine (hro.out _).mono ?_
          rintro e w9 ⟨rfl, g9⟩
          have G9 := Lib.hid (Gr.trans G8.out g9)
          have hH9 := Lib.hid (hH8.out.gr hH8.out.lt g9)
          have b9 := Lib.hid (blk_more b8.out g9)
          have hge := Lib.hid (get_any A7 c7 P w9 hpl hc7 hm7 ((rP8.out.below g9).more g9.size) hH9.out)
          rw [hgp'] at hge
          clear g9 G8 hH8 hro x0 x1 x2 x3 b8 hgp' hgp
          go_wp2_with fail
          go_at_call 7
          refine hge.out.mono ?_
          rintro e w10 ⟨rfl, g10⟩
          have g10' := g10.alloc (.cells (fc f) 26)
          have G10 := Lib.hid (Gr.trans G9.out g10')
          have hH10 := Lib.hid (hH9.out.gr hH9.out.lt g10')
          have b10 := Lib.hid (blk_more b9.out g10')
          have z10 := Lib.hid (Blk.new w10 26 (fc f))
          clear g10 g10' G9 hH9 b9 hge
          go_wp2_with fail
          go_at_call 6
          refine (awake_any _ hH10.out).mono ?_
          rintro e w11 ⟨rfl, g11⟩
          have G11 := Lib.hid (Gr.trans G10.out g11)
          have b11 := blk_more b10.out g11
          have z11 := blk_more z10.out g11
          have x0 := b11.cell 0
          have x1 := b11.cell 1
          have x2 := b11.cell 2
          have x3 := b11.cell 3
          have y0 := z11.cell 0
          have y1 := z11.cell 1
          have y2 := z11.cell 2
          have y3 := z11.cell 3
          clear g11 G10 b10 z10 b11 z11 hH10
          go_wp2_with fail
          go_at_call 10
          refine (is_same f _).mono ?_
          rintro e w12 ⟨rfl, g12⟩
          have G12 := Lib.hid (Gr.trans G11.out g12)
          clear g12 G11 x0 x1 x2 x3 y0 y1 y2 y3
          go_wp2
          go_ret
          exact ⟨_, rfl, rfl, G12.out⟩
    · have hf' : ¬ (500 : Int) < (f.d.length : Int) := by omega
      have hg' : (500 : Int) < (g.d.length : Int) := by omega
      have x3 := bx.out.cell 3
      have y3 := by_.out.cell 3
      go_enter Tryd.func4, Tryd.ntmps4
      go_wp2_with fail
      go_at_call 6
      refine (awake_any _ hH.out).mono ?_
      rintro e w2 ⟨rfl, g2⟩
      have G2 := Lib.hid (Gr.trans G0.out g2)
      clear g2 x3 y3
      go_wp2
      go_ret
      exact ⟨_, rfl, rfl, G2.out⟩
  · have hf' : (500 : Int) < (f.d.length : Int) := by omega
    have x3 := bx.out.cell 3
    go_enter Tryd.func4, Tryd.ntmps4
    go_wp2_with fail
    go_at_call 6
    refine (awake_any _ hH.out).mono ?_
    rintro e w2 ⟨rfl, g2⟩
    have G2 := Lib.hid (Gr.trans G0.out g2)
    clear g2 x3
    go_wp2
    go_ret
    exact ⟨_, rfl, rfl, G2.out⟩
end Fm
end Go.Proofs.YtgkcbhijkcbjkaaDoor
