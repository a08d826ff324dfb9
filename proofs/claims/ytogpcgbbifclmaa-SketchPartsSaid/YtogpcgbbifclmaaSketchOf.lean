/- sketch.Of: the sketch of bytes. No condition but sizes. -/
import Derived.Test.YtogpcgbbifclmaaSketchIt
set_option linter.unusedVariables false
set_option linter.unusedSimpArgs false
namespace Go.Proofs.Ytogpcgbbifclmaa
open Go Go.RowKit Go.Shelf W
attribute [local go_sem] Oper.semAt_some
namespace Sk
def least8 (ws : List UInt64) : List UInt64 := (List.range 8).map fun j => least j ws
/-- The first k numbers with one word more. -/
def mid8 (ws : List UInt64) (x : UInt64) (k : Nat) : List UInt64 := (List.range 8).map fun j => if j < k then least j (ws ++ [x]) else least j ws
theorem mid8_zero (ws : List UInt64) (x : UInt64) : mid8 ws x 0 = least8 ws := by unfold mid8 least8; simp
theorem mid8_all (ws : List UInt64) (x : UInt64) : mid8 ws x 8 = least8 (ws ++ [x]) := by
  unfold mid8 least8
  apply List.map_congr_left
  intro j hj
  rw [if_pos (List.mem_range.1 hj)]
theorem mid8_length (ws : List UInt64) (x : UInt64) (k : Nat) : (mid8 ws x k).length = 8 := by unfold mid8; simp
theorem mid8_at (ws : List UInt64) (x : UInt64) (k : Nat) (hk : k < 8) : (mid8 ws x k)[k]? = some (least k ws) := by
  unfold mid8
  rw [List.getElem?_map, List.getElem?_range hk]
  simp
theorem mid8_set (ws : List UInt64) (x : UInt64) (k : Nat) (hk : k < 8) : (mid8 ws x k).set k (lesser (least k ws) (rnd k x)) = mid8 ws x (k + 1) := by
  rw [← least_snoc]
  refine List.ext_getElem? (fun j => ?_)
  unfold mid8
  rw [List.getElem?_set]
  by_cases h : k = j
  · subst h
    simp [hk]
  · rw [if_neg h]
    by_cases h8 : j < 8
    · rw [List.getElem?_map, List.getElem?_map, List.getElem?_range h8]
      simp only [Option.map_some]
      by_cases h1 : j < k
      · rw [if_pos h1, if_pos (by omega)]
      · rw [if_neg h1, if_neg (by omega)]
    · rw [List.getElem?_eq_none (by simp; omega), List.getElem?_eq_none (by simp; omega)]
theorem least8_nil : least8 [] = List.replicate 8 top := rfl
theorem least8_all (l : List UInt8) : least8 (shingles l) = sk l := rfl
theorem least8_length (ws : List UInt64) : (least8 ws).length = 8 := by unfold least8; simp

theorem shingles_blk (A : Option Addr) (len c n : Nat) (w : World) (hn : w.heap.size = n) :
    Calls Try.prog 7 #[.slice A len c] w fun e w' =>
      e = .returned (.func (.func 14) #[] #[.pointer (some ⟨n, 0, none⟩)]) ∧ Blk w' n 22 #[.slice A len c] ∧ Gr w w' := by
  subst hn
  refine (shingles_any A len c w).mono ?_
  rintro e w' ⟨rfl, rfl⟩
  exact ⟨rfl, Blk.new w _ _, (Gr.refl w).alloc _⟩
set_option maxRecDepth 100000 in
set_option maxHeartbeats 2000000 in
theorem of_any (A : Option Addr) (c : Nat) (bs : List UInt8) (hs : bs.length ≤ 1099511627776) (hc : bs.length ≤ c) (hcm : c ≤ maxLen) (w : World) (hr : RB w w.heap.size A bs) :
    Calls Try.prog 9 #[.slice A bs.length c] w fun e w' => e = .returned (.agg (vs (sk bs))) ∧ Gr w w' := by
  refine (callsIn_wide (n := 5)).1 ?_
  have hrh := Lib.hid hr
  clear hr
  refine callsIn_of_wp_marks Try.func9 rfl trivial ?_ rfl
  simp only [Try.ntmps9, List.size_toArray, List.length_cons, List.length_nil, Nat.reduceAdd, Nat.reduceSub, Array.replicate_succ, Array.replicate_zero, List.push_toArray, List.append_toArray, List.nil_append, List.cons_append]
  refine wpIn_wide.2 ?_
  have b0 := Lib.hid (Blk.new w 30 (vs (List.replicate 8 0)))
  have g0 := Lib.hid ((Gr.refl w).alloc (.cells (vs (List.replicate 8 0)) 30))
  go_wp2_with fail
  go_at_call 16
  refine (none_any _).mono ?_
  rintro e w1 ⟨rfl, hg1⟩
  have l0 := b0.out.lt
  rw [World.size_alloc] at l0
  have hlt : w.heap.size < w1.heap.size := Nat.lt_of_lt_of_le b0.out.lt hg1.size
  have c0 := Lib.hid (((blk_more b0.out hg1).alloc (.cells (vs (List.replicate 8 0)) 30)).rowFar (Nat.ne_of_lt hlt) (vs (List.replicate 8 top)))
  have c1 := Lib.hid ((Blk.new w1 30 (vs (List.replicate 8 0))).row (vs (List.replicate 8 top)))
  have g1 := Lib.hid (below_setRow ((Gr.trans g0.out hg1).alloc (.cells (vs (List.replicate 8 0)) 30)) (Nat.le_of_lt hlt) (vs (List.replicate 8 top)))
  have bn := Lib.hid (Blk.new w1 30 (vs (List.replicate 8 0)))
  clear l0 hg1 b0 g0
  go_wp2_with (first
    | refine wpList_store_row rfl 30 _ _ rfl w1.heap.size (vs (List.replicate 8 top)) rfl rfl 30 (vs (List.replicate 8 0)) bn.out (info8' List.length_replicate) (by rw [vs_size, vs_size]; rfl) (vs_cells _) ?_)
  go_at_call 7
  refine (shingles_blk A bs.length c (w1.heap.size + 1) _ (by simp)).mono ?_
  rintro e w3 ⟨rfl, b2, hg3⟩
  have b0 := blk_more c0.out hg3
  have b1 := blk_more c1.out hg3
  have gg := Gr.trans g1.out hg3
  have hsz := b2.lt
  have hre : RB w3 w.heap.size A bs := hrh.out.below gg
  replace hre := Lib.hid hre
  replace b0 := Lib.hid b0
  replace b1 := Lib.hid b1
  replace b2 := Lib.hid b2
  replace gg := Lib.hid gg
  clear c0 c1 g1 hg3 bn hrh
  go_wp2
  refine (wpIn_wide (n := 5)).1 ?_
  refine wpIn_rangeFunc_ownG rfl (by omega) (gf := 14) (lb := #[.pointer (some ⟨w1.heap.size + 1, 0, none⟩)]) rfl trivial (enters_of Try.func14 (by kernel_rfl) rfl)
    (sh_stopsK 4 (by omega) (w1.heap.size + 1) w.heap.size A c bs hs hc hcm w3 (Ke w1.heap.size (w1.heap.size + 2)) (Ke.refl _ _) Ke.trans Ke.size (fun h => h.cell (by simp) (by simp)) (fun h hr => hr.below (h.below (by omega) (by omega))) (by omega) (by omega) (b2.out.cell 0) hre.out)
    Ke.trans (fun W l o o' hl _ _ _ => Ke.putObj W l o' (by omega)) (Below.refl _ _) (fun _ => rfl)
    (fun pre W => (Blk W w.heap.size 30 (vs (List.replicate 8 0)) ∧ Blk W w1.heap.size 30 (vs (least8 pre))) ∧ Below w.heap.size w W ∧ w1.heap.size + 2 ≤ W.heap.size)
    (fun _ _ _ => False)
    (OwnFrom.and (OwnFrom.and (blk_own (fun _ => _) _) (blk_own (fun pre => vs (least8 pre)) _)) (OwnFrom.and (ownFrom_below (Nat.le_refl _) (by omega)) (fun _ _ _ _ hs hg _ => Nat.le_trans hs hg.size)))
    (fun _ => fun _ _ _ _ h => h.elim)
    ⟨⟨b0.out, b1.out⟩, gg.out, hsz⟩
    (fun x => { tmps := #[.slice A bs.length c, undef, .pointer (some ⟨w.heap.size, 0, none⟩), .pointer (some ⟨w1.heap.size, 0, none⟩), .int .u64 (n64 x), undef, undef, .agg (vs [top, top, top, top, top, top, top, top]), .slice A bs.length c, .func (.func 14) #[] #[.pointer (some ⟨w1.heap.size + 1, 0, none⟩)], .int .u64 (n64 x), undef, undef, undef, undef, undef, undef, undef, undef, undef, undef, undef, undef, undef, undef, undef, undef, undef, undef, undef, undef, undef], defers := [] }) ?assign ?body ?done ?stop
  case assign =>
    intro l x W K hK
    dsimp only [enc]
    gi_wp2
    exact hK
  case body =>
    rintro l pre x W ⟨⟨c0, c1⟩, hB, hWs⟩ _
    clear b0 b1 b2 gg hre
    have hKW := KeepsFrom.refl w3.heap.size W
    have hEW := Ke.refl w1.heap.size (w1.heap.size + 2) W
    gi_wp2
    gi_loopw [5, 6, 11] (fun _ _ i wr => ∃ k : Nat, k ≤ 8 ∧ i = .int .i64 (k : Int) ∧ Blk wr w.heap.size 30 (vs (List.replicate 8 0)) ∧ Blk wr w1.heap.size 30 (vs (mid8 pre x k)) ∧ Below w.heap.size w wr ∧ KeepsFrom w3.heap.size W wr ∧ Ke w1.heap.size (w1.heap.size + 2) W wr)
      (fun _ _ i _ => 8 - (intOf i).toNat)
    case atStart => exact ⟨0, by omega, rfl, c0, by rw [mid8_zero]; exact c1, hB, hKW, hEW⟩
    case round =>
      clear c0 c1 hB hKW hEW
      obtain ⟨k, hk, rfl, c0, c1, hB, hKW, hEW⟩ := hrel
      by_cases h : k < 8
      · have z1 : (k : Int) < 8 := by omega
        have p0 := Lib.hid (Blk.new wr 43 #[.int .u64 (n64 (UInt64.ofNat k + 1)), .int .u64 (n64 (UInt64.ofNat k))])
        have c0' := Lib.hid (c0.alloc (.cells #[.int .u64 (n64 (UInt64.ofNat k + 1)), .int .u64 (n64 (UInt64.ofNat k))] 43))
        have c1' := Lib.hid (c1.alloc (.cells #[.int .u64 (n64 (UInt64.ofNat k + 1)), .int .u64 (n64 (UInt64.ofNat k))] 43))
        have ga' := Lib.hid ((Gr.refl wr).alloc (.cells #[.int .u64 (n64 (UInt64.ofNat k + 1)), .int .u64 (n64 (UInt64.ofNat k))] 43))
        clear c0 c1
        gi_wp2
        generalize wr.alloc (.cells #[.int .u64 (n64 (UInt64.ofNat k + 1)), .int .u64 (n64 (UInt64.ofNat k))] 43) = wa at *
        have d1 : wa.cell? ⟨w1.heap.size, k, none⟩ = some (.int .u64 (n64 (least k pre))) := by rw [c1'.out.cell, vs_at, mid8_at _ _ _ h]; rfl
        have d2 := p0.out.cell 0
        have d3 := p0.out.cell 1
        have l1 := c1'.out.lt
        have l2 := p0.out.lt
        have hfd : ∀ w : World, (Instr.field 43 (Mix.sumV (Mix.round (UInt64.ofNat k + 1, UInt64.ofNat k) x)) 1).run Try.prog w = .ok (.int .u64 (n64 (rnd k x))) w := fun _ => by kernel_rfl
        refine region_growIn (by kernel_rfl) (by kernel_rfl) (by kernel_rfl) (fun ⟨_, _, h⟩ => h) ?_
        refine GW.mv rfl trivial (.inl rfl) (kn0 (t := 5) (c := .int .i64 (k : Int)) (by kernel_rfl) rfl) (eqv_lasts _) ?_
        refine GW.mv rfl trivial (.inl rfl) (kn0 (t := 5) (c := .int .i64 (k : Int)) (by kernel_rfl) rfl) (eqv_lasts _) ?_
        refine GW.p2 (.pointer (some ⟨w1.heap.size, k, none⟩)) rfl trivial (kn0 (t := 3) (c := .pointer (some ⟨w1.heap.size, 0, none⟩)) (by kernel_rfl) rfl) (kn (t := 21) (j := 1) (by kernel_rfl)) (fun ρ w' h1 h2 hg => by simp [execOp, h1, h2, go_sem, z1]) ?_
        refine GW.ldAt ((n64 (least k pre))) rfl trivial rfl Try.underlying29 (kn (t := 22) (j := 2) (by kernel_rfl)) (d1) (by omega) ?_
        refine GW.p1 (Mix.sumV (UInt64.ofNat k + 1, UInt64.ofNat k)) rfl trivial (kn0 (t := 6) (c := .pointer (some ⟨wr.heap.size, 0, none⟩)) (by kernel_rfl) rfl) (fun ρ w' hρ hg => by have h0 := (hg.cell (p := ⟨wr.heap.size, 0, none⟩) (by omega)).trans d2; have h1 := (hg.cell (p := ⟨wr.heap.size, 1, none⟩) (by omega)).trans d3; simp [execOp, hρ, go_sem, h0, h1]) ?_
        refine GW.mv rfl trivial (.inl rfl) (kn0 (t := 4) (c := .int .u64 (n64 (x))) (by kernel_rfl) rfl) (eqv_lasts _) ?_
        refine GW.call2 (eqv (Mix.sumV (Mix.round (UInt64.ofNat k + 1, UInt64.ofNat k) x))) rfl trivial rfl Try.func17 (by kernel_rfl) (by kernel_rfl) (eqv_lasts _) (kn (t := 24) (j := 4) (by kernel_rfl)) (kn (t := 25) (j := 5) (by kernel_rfl)) (fun v u w' hg hv hu => ?_) ?_
        · obtain rfl : v = _ := hv
          obtain rfl : u = _ := hu
          refine (Mix.round_any (UInt64.ofNat k + 1, UInt64.ofNat k) x w').mono ?_
          rintro e w2 ⟨rfl, hg2⟩
          exact ⟨_, rfl, rfl, hg2⟩
        refine GW.p1 (.int .u64 (n64 (rnd k x))) rfl trivial (kn (t := 26) (j := 6) (by kernel_rfl)) (fun ρ w' hρ hg => by show ((Instr.field 43 (ρ (.tmp 26)) 1 >>= fun v => pure (Next.value v)) : Sem Next).run Try.prog w' = _; rw [hρ, Sem.run_bind, hfd]; rfl) ?_
        refine GW.p2 (.int .u64 (n64 (lesser (least k pre) (rnd k x)))) rfl trivial (kn (t := 23) (j := 3) (by kernel_rfl)) (kn (t := 27) (j := 7) (by kernel_rfl)) (fun ρ w' h1 h2 hg => by rw [← min_lesser]; simp [execOp, h1, h2, go_sem]) ?_
        refine GW.p2 (.pointer (some ⟨w1.heap.size, k, none⟩)) rfl trivial (kn0 (t := 3) (c := .pointer (some ⟨w1.heap.size, 0, none⟩)) (by kernel_rfl) rfl) (kn (t := 20) (j := 0) (by kernel_rfl)) (fun ρ w' h1 h2 hg => by simp [execOp, h1, h2, go_sem, z1]) ?_
        refine GW.tail (m := 10) (by simp) (by kernel_rfl) (by kernel_rfl) (fun w' hg => ?_)
        intro v0 _ v1 _ v2 _ v3 _ v4 _ v5 _ v6 _ v7 _ v8 h8 v9 h9
        obtain rfl : v8 = (.int .u64 (n64 (lesser (least k pre) (rnd k x)))) := h8
        obtain rfl : v9 = (.pointer (some ⟨w1.heap.size, k, none⟩)) := h9
        simp only [GFin, List.take_succ_cons, List.take_zero, List.drop_succ_cons, List.drop_zero, Act.put, List.setIfInBounds_toArray, List.set_cons_succ, List.set_cons_zero]
        have fz := (c1'.out.below hg c1'.out.lt).frozen k
        have d4 := ((hg.cell (p := ⟨w1.heap.size, k, none⟩) l1).trans d1)
        have hlw := hg.size
        have k0 := (c0'.out.below hg c0'.out.lt).far (p := ⟨w1.heap.size, k, none⟩) (Nat.ne_of_lt hlt) (.int .u64 (n64 (lesser (least k pre) (rnd k x))))
        have k1 := (c1'.out.below hg c1'.out.lt).set_ k (.int .u64 (n64 (lesser (least k pre) (rnd k x))))
        rw [vs_set, mid8_set _ _ _ h] at k1
        have kg := Gr.trans ga'.out hg
        have kB := (hB.trans (Below.mono kg (Nat.le_trans (Nat.le_refl _) hB.size))).setCell (p := ⟨w1.heap.size, k, none⟩) (Nat.le_of_lt hlt) (.int .u64 (n64 (lesser (least k pre) (rnd k x))))
        have kK := (hKW.trans (gr_from kg w3.heap.size)).trans ((KeepsOthers.setCell w' ⟨w1.heap.size, k, none⟩ (.int .u64 (n64 (lesser (least k pre) (rnd k x))))).from _)
        have kE := (hEW.trans (Ke.of_gr kg (Nat.le_trans hWs hKW.size))).trans (Ke.setCell w' k (.int .u64 (n64 (lesser (least k pre) (rnd k x)))))
        replace k0 := Lib.hid k0
        replace k1 := Lib.hid k1
        clear hg kg c0' c1' p0 ga' d1 d2 d3 l1 l2 hlw hB hKW hEW hfd
        go_wp2
        gi_wp2
        go_roundw
        case rel => exact ⟨k + 1, by omega, by go_num, k0.out, k1.out, kB, kK, kE⟩
        case measure => simp [intOf]; omega
      · obtain rfl : k = 8 := by omega
        rw [mid8_all] at c1
        gi_wp2
        exact ⟨hKW, hEW, ⟨c0, c1⟩, hB, Nat.le_trans hWs hKW.size⟩
  case done =>
    rintro D ys W hD rfl ⟨⟨c0, c1⟩, hB, hWs⟩ hK
    clear b0 b1 b2 gg hre hWs
    rename_i hk
    refine hk _ _ ?_
    rw [least8_all] at c1
    have hm := sk_length bs
    have k0 := c0.row (vs (sk bs))
    have kB := below_setRow hB (Nat.le_refl _) (vs (sk bs))
    have hKd : (W.setRow w.heap.size (vs (sk bs))).heap[D]? = some (.deferred (some [])) := (setRow_other W w.heap.size D _ (by omega)).trans hK
    replace k0 := Lib.hid k0
    replace c0 := Lib.hid c0
    replace c1 := Lib.hid c1
    replace hKd := Lib.hid hKd
    clear hB hK hk
    go_wp2_with (first
      | refine wpList_load_row rfl 30 _ rfl w1.heap.size rfl 30 (vs (sk bs)) (0, 0) _ c1.out Try.underlying30 rfl (info8' hm) ?_
      | refine wpList_store_row rfl 30 _ _ rfl w.heap.size (vs (sk bs)) rfl rfl 30 (vs (List.replicate 8 0)) c0.out (info8' hm) (by rw [vs_size, vs_size, hm]; rfl) (vs_cells _) ?_)
    refine ⟨by simp, .inl ⟨_, _, rfl, run_takeDeferred hKd.out, ?_⟩⟩
    have k0' : Blk ((W.setRow w.heap.size (vs (sk bs))).putObj D (.deferred none)) w.heap.size 30 (vs (sk bs)) := k0.out.grown (grownBy_putObj' _ D (.deferred none)) (fun e => by cases e; omega)
    refine ⟨.agg (vs (sk bs)), ?_, rfl, kB.trans (belowK_b (w := w) (Nat.le_refl _) _ D _ _ (by omega) hKd.out rfl rfl)⟩
    exact results_cell_row Try.results9 _ _ w.heap.size 30 _ (0, 0) _ rfl k0' Try.underlying30 rfl (info8' hm)
  case stop =>
    rintro D c pre W hD _ h
    exact h.elim
end Sk
end Go.Proofs.Ytogpcgbbifclmaa

