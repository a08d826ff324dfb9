/- The walk of SketchAlike: it returns true and writes nothing that was there. No condition. -/
import Derived.Test.YtogpcgbbifclmaaSketchAwake
set_option linter.unusedVariables false
set_option linter.unusedSimpArgs false
namespace Go.Proofs.Ytogpcgbbifclmaa
open Go Go.RowKit W
namespace Sk
theorem merge_at {a b : List UInt64} (ha : a.length = 8) (hb : b.length = 8) {k : Nat} (hk : k < 8) : (merge a b)[k]? = some (lesser (a[k]'(by omega)) (b[k]'(by omega))) := by
  unfold merge
  rw [List.getElem?_map, List.getElem?_eq_getElem (by simp; omega)]
  simp
theorem lesser_or (x y : UInt64) : (n64 y < n64 x ∧ lesser x y = y) ∨ (¬ n64 y < n64 x ∧ lesser x y = x) := by
  unfold lesser
  by_cases h : y < x
  · rw [if_pos h]
    have := UInt64.lt_iff_toNat_lt.1 h
    exact .inl ⟨by simp only [n64_def]; omega, rfl⟩
  · rw [if_neg h]
    refine .inr ⟨?_, rfl⟩
    intro h'
    refine h (UInt64.lt_iff_toNat_lt.2 ?_)
    simp only [n64_def] at h'
    omega
set_option maxRecDepth 100000 in
set_option maxHeartbeats 2000000 in
theorem sketchAlike_walk (a b : List UInt64) (w : World) (ha : a.length = 8) (hb : b.length = 8) : Calls Try.prog 4 #[.agg (vs a), .agg (vs b)] w (Ret (eqv (.bool true)) w) := by
  have ba := Lib.hid ((Blk.new w 30 (vs a)).alloc (.cells (vs b) 30))
  have bb := Blk.new (w.alloc (.cells (vs a) 30)) 30 (vs b)
  rw [World.size_alloc] at bb
  replace bb := Lib.hid bb
  have g0 := Lib.hid (((Gr.refl w).alloc (.cells (vs a) 30)).alloc (.cells (vs b) 30))
  have hm := merge_length ha hb
  go_enter Try.func4, Try.ntmps4
  go_wp2_with (first
    | refine wpList_load_row rfl 30 _ rfl w.heap.size rfl 30 (vs a) (0, 0) _ ba.out Try.underlying30 rfl (info8' ha) ?_
    | refine wpList_load_row rfl 30 _ rfl (w.heap.size + 1) rfl 30 (vs b) (0, 0) _ bb.out Try.underlying30 rfl (info8' hb) ?_)
  go_at_call 11
  refine (merge_any a b _ ha hb).mono ?_
  rintro e w1 ⟨rfl, hg1⟩
  have ka := Lib.hid ((blk_more ba.out hg1).alloc (.cells (vs (List.replicate 8 0)) 30))
  have kb := Lib.hid ((blk_more bb.out hg1).alloc (.cells (vs (List.replicate 8 0)) 30))
  have km := Lib.hid (Blk.new w1 30 (vs (List.replicate 8 0)))
  have gg := Lib.hid ((Gr.trans g0.out hg1).alloc (.cells (vs (List.replicate 8 0)) 30))
  have l1 := bb.out.lt
  have l2 := hg1.size
  simp only [World.size_alloc] at l1 l2
  have c0 := Lib.hid (ka.out.rowFar (k := w1.heap.size) (by omega) (vs (merge a b)))
  have c1 := Lib.hid (kb.out.rowFar (k := w1.heap.size) (by omega) (vs (merge a b)))
  have c2 := Lib.hid (km.out.row (vs (merge a b)))
  have g2 := Lib.hid (below_setRow gg.out (g := w1.heap.size) (by omega) (vs (merge a b)))
  clear ba bb g0 ka kb gg hg1
  go_wp2_with (first
    | refine wpList_store_row rfl 30 _ _ rfl w1.heap.size (vs (merge a b)) rfl rfl 30 (vs (List.replicate 8 0)) km.out (info8' hm) (by rw [vs_size, vs_size, hm]; rfl) (vs_cells _) ?_)
  go_loopw [6] (fun i wr => ∃ k : Nat, k ≤ 8 ∧ i = .int .i64 (k : Int) ∧ Blk wr w.heap.size 30 (vs a) ∧ Blk wr (w.heap.size + 1) 30 (vs b) ∧ Blk wr w1.heap.size 30 (vs (merge a b)) ∧ Gr w wr) (fun i _ => 8 - (intOf i).toNat)
  case atStart => exact ⟨0, by omega, rfl, c0.out, c1.out, c2.out, g2.out⟩
  case round =>
    clear c0 c1 c2 g2 km
    obtain ⟨k, hk, rfl, ka, kb, km, hg⟩ := hrel
    by_cases h : k < 8
    · have ca : wr.cell? ⟨w.heap.size, k, none⟩ = some (.int .u64 (n64 (a[k]'(by omega)))) := by rw [ka.cell, vs_at, List.getElem?_eq_getElem (by omega)]; rfl
      have cb : wr.cell? ⟨w.heap.size + 1, k, none⟩ = some (.int .u64 (n64 (b[k]'(by omega)))) := by rw [kb.cell, vs_at, List.getElem?_eq_getElem (by omega)]; rfl
      have cm : wr.cell? ⟨w1.heap.size, k, none⟩ = some (.int .u64 (n64 (lesser (a[k]'(by omega)) (b[k]'(by omega))))) := by rw [km.cell, vs_at, merge_at ha hb h]; rfl
      have z1 : (k : Int) < 8 := by omega
      have z2 : 0 ≤ (k : Int) := by omega
      have z3 : (k : Int).toNat = k := by omega
      replace ka := Lib.hid ka
      replace kb := Lib.hid kb
      replace km := Lib.hid km
      replace hg := Lib.hid hg
      have hor := lesser_or (a[k]'(by omega)) (b[k]'(by omega))
      generalize a[k]'(by omega) = x at *
      generalize b[k]'(by omega) = y at *
      rcases hor with ⟨h1, h2⟩ | ⟨h1, h2⟩
      · rw [h2] at cm
        clear h2
        go_wp2
        go_quiet (fail)
        go_wp2
        go_roundw
        case rel => exact ⟨k + 1, by omega, by simp, ka.out.drewN _, kb.out.drewN _, km.out.drewN _, below_drewN hg.out _⟩
        case measure => simp [intOf]; omega
      · rw [h2] at cm
        clear h2
        go_wp2
        go_quiet (fail)
        go_wp2
        go_roundw
        case rel => exact ⟨k + 1, by omega, by simp, ka.out.drewN _, kb.out.drewN _, km.out.drewN _, below_drewN hg.out _⟩
        case measure => simp [intOf]; omega
    · obtain rfl : k = 8 := by omega
      go_wp2
      have hgo := hg
      refine region_grow (by kernel_rfl) (by kernel_rfl) ?_
      refine GW.call0 (eqv (.bool true)) rfl trivial rfl Try.func6 (by kernel_rfl) (by kernel_rfl) (eqv_lasts _)  (fun w' hg => ?_) ?_
      · exact awake_any w'
      refine GW.mv rfl trivial (.inl rfl) (kn (t := 25) (j := 0) (by kernel_rfl)) (eqv_lasts _) ?_
      refine GW.ldRow rfl ⟨26, by kernel_rfl, by kernel_rfl, fun _ _ h => h⟩ rfl (kn0 (t := 2) (c := .pointer (some ⟨w.heap.size, 0, none⟩)) (by kernel_rfl) rfl) (ka) Try.underlying30 rfl (info8' ha) ?_
      refine GW.ldRow rfl ⟨26, by kernel_rfl, by kernel_rfl, fun _ _ h => h⟩ rfl (kn0 (t := 3) (c := .pointer (some ⟨w.heap.size + 1, 0, none⟩)) (by kernel_rfl) rfl) (kb) Try.underlying30 rfl (info8' hb) ?_
      refine GW.call2 (eqv (.int .i64 (alike a b : Int))) rfl ⟨26, by kernel_rfl, by kernel_rfl, fun _ _ h => h⟩ rfl Try.func12 (by kernel_rfl) (by kernel_rfl) (eqv_lasts _) (kn (t := 27) (j := 2) (by kernel_rfl)) (kn (t := 28) (j := 3) (by kernel_rfl)) (fun v u w' hg hv hu => ?_) ?_
      · obtain rfl : v = _ := hv
        obtain rfl : u = _ := hu
        refine (alike_any a b w' ha hb).mono ?_
        rintro e w2 ⟨rfl, hg2⟩
        exact ⟨_, rfl, rfl, hg2⟩
      refine GW.ldRow rfl ⟨26, by kernel_rfl, by kernel_rfl, fun _ _ h => h⟩ rfl (kn0 (t := 2) (c := .pointer (some ⟨w.heap.size, 0, none⟩)) (by kernel_rfl) rfl) (ka) Try.underlying30 rfl (info8' ha) ?_
      refine GW.ldRow rfl ⟨26, by kernel_rfl, by kernel_rfl, fun _ _ h => h⟩ rfl (kn0 (t := 3) (c := .pointer (some ⟨w.heap.size + 1, 0, none⟩)) (by kernel_rfl) rfl) (kb) Try.underlying30 rfl (info8' hb) ?_
      refine GW.call2 (eqv (.int .i64 (alike a b : Int))) rfl ⟨26, by kernel_rfl, by kernel_rfl, fun _ _ h => h⟩ rfl Try.func13 (by kernel_rfl) (by kernel_rfl) (eqv_lasts _) (kn (t := 30) (j := 5) (by kernel_rfl)) (kn (t := 31) (j := 6) (by kernel_rfl)) (fun v u w' hg hv hu => ?_) ?_
      · obtain rfl : v = _ := hv
        obtain rfl : u = _ := hu
        refine (refAlike_any a b w' ha hb).mono ?_
        rintro e w2 ⟨rfl, hg2⟩
        exact ⟨_, rfl, rfl, hg2⟩
      refine GW.bin (.bool true) rfl ⟨26, by kernel_rfl, by kernel_rfl, fun _ _ h => h⟩ rfl (kn (t := 29) (j := 4) (by kernel_rfl)) (kn (t := 32) (j := 7) (by kernel_rfl)) (fun w' => run_eql_int rfl _ _ _ w') ?_
      refine GW.pick (b := true) rfl trivial rfl (kn (t := 26) (j := 1) (by kernel_rfl)) (kn (t := 33) (j := 8) (by kernel_rfl)) (eqv_lasts _) ?_
      refine GW.mv rfl trivial (.inl rfl) (kn (t := 34) (j := 9) (by kernel_rfl)) (eqv_lasts _) ?_
      refine GW.ldRow rfl ⟨35, by kernel_rfl, by kernel_rfl, fun _ _ h => h⟩ rfl (kn0 (t := 2) (c := .pointer (some ⟨w.heap.size, 0, none⟩)) (by kernel_rfl) rfl) (ka) Try.underlying30 rfl (info8' ha) ?_
      refine GW.ldRow rfl ⟨35, by kernel_rfl, by kernel_rfl, fun _ _ h => h⟩ rfl (kn0 (t := 2) (c := .pointer (some ⟨w.heap.size, 0, none⟩)) (by kernel_rfl) rfl) (ka) Try.underlying30 rfl (info8' ha) ?_
      refine GW.call2 (eqv (.int .i64 8)) rfl ⟨35, by kernel_rfl, by kernel_rfl, fun _ _ h => h⟩ rfl Try.func12 (by kernel_rfl) (by kernel_rfl) (eqv_lasts _) (kn (t := 36) (j := 11) (by kernel_rfl)) (kn (t := 37) (j := 12) (by kernel_rfl)) (fun v u w' hg hv hu => ?_) ?_
      · obtain rfl : v = _ := hv
        obtain rfl : u = _ := hu
        refine (alike_any a a w' ha ha).mono ?_
        rintro e w2 ⟨rfl, hg2⟩
        exact ⟨_, rfl, by rw [alike_same, ha]; rfl, hg2⟩
      refine GW.bin (.bool true) rfl ⟨35, by kernel_rfl, by kernel_rfl, fun _ _ h => h⟩ rfl (kn (t := 38) (j := 13) (by kernel_rfl)) knc (fun w' => run_eql_int rfl _ _ _ w') ?_
      refine GW.pick (b := true) rfl trivial rfl (kn (t := 35) (j := 10) (by kernel_rfl)) (kn (t := 39) (j := 14) (by kernel_rfl)) (eqv_lasts _) ?_
      refine GW.mv rfl trivial (.inr rfl) (kn (t := 40) (j := 15) (by kernel_rfl)) (eqv_lasts _) ?_
      refine GW.done (by simp) (by kernel_rfl) (fun w' hg => ?_)
      intro v0 _ v1 _ v2 _ v3 _ v4 _ v5 _ v6 _ v7 _ v8 _ v9 _ v10 _ v11 _ v12 _ v13 _ v14 _ v15 _ v16 h16
      obtain rfl : v16 = (.bool true) := h16
      simp only [GFin, Act.put, List.setIfInBounds_toArray, List.set_cons_succ, List.set_cons_zero]
      go_wp2
      go_ret
      exact ⟨_, rfl, rfl, Gr.trans hgo hg⟩
end Sk
end Go.Proofs.Ytogpcgbbifclmaa

