/- The walk of way.take. No condition but sizes. -/
import Derived.Test.YtpkbdodclkgjpaaLnkWalk
set_option linter.unusedVariables false
set_option linter.unusedSimpArgs false
namespace Go.Proofs.Ytpkbdodclkgjpaa
open Go Go.RowKit W
namespace Ln
theorem kb_drew {g : Nat} {w w' : World} (h : Kb g w.drew w') : Kb g w w' := ⟨h.os, h.tape, h.output, h.size, h.block⟩
theorem kb_cell {g : Nat} {a b : World} {p : Addr} (h : Kb g a b) (hl : p.block < a.heap.size) (hn : p.block ≠ g) : b.cell? p = a.cell? p := World.grownBy.cell_far h p hl (fun e => hn (by cases e; rfl))
theorem op_at {w : World} {base c : Nat} {A : Option Addr} {rows : List (Value × Value)} (h : OP w base (.slice A rows.length c) rows) {i : Nat} (hi : i < rows.length) : ∃ ad, A = some ad ∧ ad.block < w.heap.size ∧ base ≤ ad.block ∧
    w.cell? (ad.add (i * 2)) = some rows[i].1 ∧ w.cell? ⟨(ad.add (i * 2)).block, (ad.add (i * 2)).off + 1, none⟩ = some rows[i].2 := by
  obtain ⟨ad, h1, h2, h3, h4⟩ := Reads.row (f := fun r : Value × Value => [r.1, r.2]) (fun _ => rfl) rfl (OR.reads h) hi (by omega)
  exact ⟨ad, h1, h2, (World.ownsRow.lt h ad.block (by rw [h1]; rfl)).1, h3 _ rfl, h4 1 _ (by omega) (by omega) rfl⟩
theorem op_cells {w : World} {base c : Nat} {A : Option Addr} {rows : List (Value × Value)} (h : OP w base (.slice A rows.length c) rows) (hn : 0 < rows.length) : ∃ ad, A = some ad ∧ ∀ j u, (pcs rows)[j]? = some u → w.cell? (ad.add j) = some u := by
  obtain ⟨ad, h1, _, h3⟩ := (OR.reads h).2 hn
  exact ⟨ad, h1, h3⟩
theorem op_cap {w : World} {base c : Nat} {A : Option Addr} {rows : List (Value × Value)} (h : OP w base (.slice A rows.length c) rows) : rows.length ≤ c ∧ c ≤ maxLen := by
  obtain ⟨A', c', e, h1, h2⟩ := OR.shape h
  injection e with _ _ e3
  subst e3
  exact ⟨h1, h2⟩
abbrev pkZ : Array Value := #[.slice none 0 0, .bool false]
set_option maxRecDepth 100000 in
set_option maxHeartbeats 8000000 in
theorem take_any (g o : Nat) (cs : Array Value) (A : Option Addr) (c : Nat) (rows : List (Value × Value)) (i : Nat) (w : World) (hb : Blk w g 54 cs) (h0 : cs[o]? = some (.slice A rows.length c)) (ho : OP w (g + 1) (.slice A rows.length c) rows)
    (hone : ∀ u ∈ pcs rows, u.oneCell' = true) (hi : i < rows.length) (Ai : Option Addr) (ni ci : Nat) (ti : Bool) (hri : rows[i] = (.slice Ai ni ci, .bool ti)) (hn : rows.length ≤ 1000) :
    Calls Try.prog 24 #[.pointer (some ⟨g, o, none⟩), .int .i64 (i : Int)] w fun e w' => e = .returned (.agg #[rows[i].1, rows[i].2]) ∧
      ∃ A' c', Blk w' g 54 (cs.setIfInBounds o (.slice A' (rows.eraseIdx i).length c')) ∧ OP w' (g + 1) (.slice A' (rows.eraseIdx i).length c') (rows.eraseIdx i) ∧ (∀ n, (Value.slice A' (rows.eraseIdx i).length c').ownBlock = some n → w.heap.size ≤ n) ∧ Kb g w w' := by
  have hlt := hb.lt
  have c0 : w.cell? ⟨g, o, none⟩ = some (.slice A rows.length c) := by rw [hb.cell, h0]
  obtain ⟨ad, hA, hal, hab, e0, e1⟩ := op_at ho hi
  obtain ⟨ad', hA', hcell⟩ := op_cells ho (by omega)
  rw [hA] at hA'
  obtain rfl : ad = ad' := Option.some.inj hA'
  obtain ⟨hcap, hcm⟩ := op_cap ho
  subst hA
  have hcell := Lib.hid hcell
  rw [hri] at e0 e1 ⊢
  try clear hri
  obtain ⟨iz, hiz, hzz, hsz, hbz⟩ := info_parts (show (Try.prog.info? 63).map (fun i => (i.zero, i.size, i.bytes)) = some (some (.agg #[.slice none 0 0, .bool false]), 2, 32) by kernel_rfl)
  obtain ⟨m, hm⟩ : ∃ m, rows.length = m + 1 := ⟨rows.length - 1, by omega⟩
  obtain ⟨Z, hZl, hmk⟩ : ∃ Z : List Value, Z.length = m * 2 ∧ ∀ w : World, (Instr.makeSlice 49 (.int .i64 (m : Int)) (.int .i64 (m : Int))).run Try.prog w = .ok (.slice (some ⟨w.heap.size, 0, none⟩) m m) (w.alloc (.cells Z.toArray 63)) := by
    refine ⟨(madeCells (Value.agg #[.slice none 0 0, .bool false]).cells (m * 2)).toList, by simp [size_madeCells], fun w => ?_⟩
    have := run_makeSlice (P := Try.prog) w 49 63 iz _ Try.underlying49 hiz hzz .i64 .i64 (m : Int) (m : Int) (by omega) (Int.le_refl _) (by rw [hsz]; omega) (by rw [hbz]; omega) (by omega)
    rw [hsz] at this
    simpa using this
  clear iz hiz hzz hsz hbz
  have hX1 : ∃ X1, X1 = (pcs rows).take (i * 2) ∧ X1.length = i * 2 := ⟨_, rfl, by rw [List.length_take, pcs_len]; omega⟩
  obtain ⟨X1, hX1, hX1l⟩ := hX1
  have hX2 : ∃ X2, X2 = (pcs rows).drop ((i + 1) * 2) ∧ X2.length = (m - i) * 2 := ⟨_, rfl, by rw [List.length_drop, pcs_len]; omega⟩
  obtain ⟨X2, hX2, hX2l⟩ := hX2
  have hX : pcs (rows.eraseIdx i) = X1 ++ X2 := by rw [pcs_erase, hX1, hX2]
  have hel : (rows.eraseIdx i).length = m := by rw [List.length_eraseIdx, if_pos hi]; omega
  have hone1 : ∀ v ∈ X1, v.oneCell' = true := fun v hv => hone v (by rw [hX1] at hv; exact List.mem_of_mem_take hv)
  have hone2 : ∀ v ∈ X2, v.oneCell' = true := fun v hv => hone v (by rw [hX2] at hv; exact List.mem_of_mem_drop hv)
  have hs1 : ∀ j v, X1[j]? = some v → (pcs rows)[j]? = some v := fun j v hv => by
    rw [hX1, List.getElem?_take] at hv
    split at hv
    · exact hv
    · cases hv
  have hs2 : ∀ j v, X2[j]? = some v → (pcs rows)[(i + 1) * 2 + j]? = some v := fun j v hv => by
    rw [hX2, List.getElem?_drop] at hv
    exact hv
  clear hone hX1 hX2
  have b1 := Lib.hid (((hb.alloc (.cells pkZ 63)).alloc (.cells #[.slice Ai ni ci, .bool ti] 63)).alloc (.cells Z.toArray 63))
  have br := Lib.hid (((Blk.new w 63 pkZ).alloc (.cells #[.slice Ai ni ci, .bool ti] 63)).alloc (.cells Z.toArray 63))
  have bp := (Blk.new (w.alloc (.cells pkZ 63)) 63 #[.slice Ai ni ci, .bool ti]).alloc (.cells Z.toArray 63)
  have bz := Blk.new ((w.alloc (.cells pkZ 63)).alloc (.cells #[.slice Ai ni ci, .bool ti] 63)) 63 Z.toArray
  rw [World.size_alloc] at bp bz
  rw [World.size_alloc] at bz
  replace bp := Lib.hid bp
  replace bz := Lib.hid bz
  have g3 := (((Gr.refl w).alloc (.cells pkZ 63)).alloc (.cells #[.slice Ai ni ci, .bool ti] 63)).alloc (.cells Z.toArray 63)
  have hcell3 := Lib.hid (fun j u (hu : (pcs rows)[j]? = some u) => (g3.cell (p := ad.add j) (by rw [block_of_add]; exact hal)).trans (hcell j u hu))
  have K3 := Lib.hid (Kb.of_gr (g := g) g3)
  have z3 : (((w.alloc (.cells pkZ 63)).alloc (.cells #[.slice Ai ni ci, .bool ti] 63)).alloc (.cells Z.toArray 63)).heap.size = w.heap.size + 3 := by simp
  have hlen : ((rows.length : Nat) : Int) = (m : Int) + 1 := by omega
  have him : i ≤ m := by omega
  have hmc : m + 1 ≤ c := by omega
  have hm1000 : m ≤ 1000 := by omega
  rw [hm] at c0
  rw [hel]
  replace hX := Lib.hid hX
  replace hel := Lib.hid hel
  replace hs1 := Lib.hid hs1
  replace hs2 := Lib.hid hs2
  replace ho := Lib.hid ho
  replace hb := Lib.hid hb
  replace h0 := Lib.hid h0
  replace hm := Lib.hid hm
  replace z3 := Lib.hid z3
  have hlt2 : (ad.add (i * 2)).block < w.heap.size := by rw [block_of_add]; exact hal
  have e0' : (w.alloc (.cells pkZ 63)).cell? (ad.add (i * 2)) = some (.slice Ai ni ci) := (((Gr.refl w).alloc (.cells pkZ 63)).cell (p := ad.add (i * 2)) hlt2).trans e0
  have e1' : (w.alloc (.cells pkZ 63)).cell? ⟨(ad.add (i * 2)).block, (ad.add (i * 2)).off + 1, none⟩ = some (.bool ti) := (((Gr.refl w).alloc (.cells pkZ 63)).cell (p := ⟨(ad.add (i * 2)).block, (ad.add (i * 2)).off + 1, none⟩) hlt2).trans e1
  have c03 : (((w.alloc (.cells pkZ 63)).alloc (.cells #[.slice Ai ni ci, .bool ti] 63)).alloc (.cells Z.toArray 63)).cell? ⟨g, o, none⟩ = some (.slice (some ad) (m + 1) c) := (g3.cell (p := ⟨g, o, none⟩) hlt).trans c0
  have zlt : w.heap.size + 1 + 1 < (((w.alloc (.cells pkZ 63)).alloc (.cells #[.slice Ai ni ci, .bool ti] 63)).alloc (.cells Z.toArray 63)).heap.size := by rw [z3]; omega
  have hg3 : g < (((w.alloc (.cells pkZ 63)).alloc (.cells #[.slice Ai ni ci, .bool ti] 63)).alloc (.cells Z.toArray 63)).heap.size := by rw [z3.out]; omega
  have ha3 : ad.block < (((w.alloc (.cells pkZ 63)).alloc (.cells #[.slice Ai ni ci, .bool ti] 63)).alloc (.cells Z.toArray 63)).heap.size := by rw [z3.out]; omega
  obtain ⟨zb, hzb, hzg, hzp, hza⟩ : ∃ zb, zb = w.heap.size + 1 + 1 ∧ zb ≠ g ∧ zb ≠ w.heap.size + 1 ∧ ad.block ≠ zb := ⟨_, rfl, by omega, by omega, by omega⟩
  obtain ⟨pb, hpb, hpg⟩ : ∃ pb, pb = w.heap.size + 1 ∧ pb ≠ g := ⟨_, rfl, by omega⟩
  clear g3 hcell hn hi hcap hlen hal
  go_enter Try.func24, Try.ntmps24
  go_wp2_with (first | (refine wpList_copy_rows rfl (.tmp 21) (.tmp 27) 49 49 rfl 63 2 (by omega) Try.underlying49 pkSize (some ⟨w.heap.size + 1 + 1, 0, none⟩) (some ad) m m i c (by simp [Act.eval]) (by simp [Act.eval]) (w.heap.size + 1 + 1) 0 i Z 63 bz X1 (Nat.min_eq_left him).symm hX1l (fun _ => ⟨rfl, ad, rfl, fun j v hv => hcell3 j v (hs1 j v hv)⟩) (by omega) hone1 ?_))
  intro w4 hz4 k4 s4
  have h4 : w.heap.size + 3 ≤ w4.heap.size := by rw [s4.out]; exact Nat.le_refl (w.heap.size + 3)
  have b4 := Lib.hid (k4.out.blk b1.out (by omega))
  have br4 := Lib.hid (k4.out.blk br.out (by omega))
  have bp4 := Lib.hid (k4.out.blk bp.out (by omega))
  have c04 : w4.cell? ⟨g, o, none⟩ = some (.slice (some ad) (m + 1) c) := (kb_cell k4.out hg3 (show g ≠ _ by omega)).trans c03
  have hcell4 := Lib.hid (fun j u (hu : (pcs rows)[j]? = some u) => (kb_cell (p := ad.add j) k4.out (by rw [block_of_add]; exact ha3) (by rw [block_of_add]; omega)).trans (hcell3.out j u hu))
  have K4 := Lib.hid (Kb.to K3.out (Kb.below k4.out (by omega)) (by omega))
  have hl4 : (splice Z 0 X1).length = m * 2 := by rw [length_splice _ _ _ (by omega)]; omega
  clear b1 br bp hcell3 K3 k4 c03 bz
  have hp1 : (0 : Int) ≤ (i : Int) + 1 := by omega
  have hp2 : (i : Int) + 1 ≤ ((m + 1 : Nat) : Int) := by omega
  have hp3 : ((i : Int) + 1).toNat = i + 1 := by omega
  have hp4 : (IntKind.i64).wrap ((i : Int) + 1) = (i : Int) + 1 := by rw [IntKind.wrap_i64]; omega
  rcases Nat.lt_or_ge i m with hlt | hge
  · have q1 : ¬ (m = i) := by omega
    have q2 : ¬ (c = i + 1) := by omega
    go_wp2
    go_region_law (refine step_copy_rows rfl (.tmp 31) (.tmp 38) 49 49 rfl 63 2 (by omega) Try.underlying49 pkSize _ _ (m - i) (m - i) (m - i) (c - (i + 1)) rfl rfl (w.heap.size + 1 + 1) (i * 2) (m - i) (splice Z 0 X1) 63 hz4.out X2 (Nat.min_self _).symm hX2l (fun _ => ⟨by simp, ad.add ((i + 1) * 2), by simp, fun j v hv => by rw [Addr.add_add]; exact hcell4.out _ _ (hs2.out j v hv)⟩) (by omega) hone2 ?_; intro w5 hz5 k5 s5)
    have h5 : w.heap.size + 3 ≤ w5.heap.size := Nat.le_trans h4 (Nat.le_of_eq s5.out.symm)
    have k5' := Lib.hid (kb_drew k5.out)
    have B5 := k5'.out.blk b4.out (by omega)
    have f5 : w5.frozen? ⟨g, o, none⟩ = false := B5.frozen o
    have d5 : w5.cell? ⟨g, o, none⟩ = some (.slice (some ad) (m + 1) c) := (kb_cell k5'.out (show g < _ by omega) (show g ≠ _ by omega)).trans c04
    have P5 := (k5'.out.blk bp4.out (by omega)).far (p := ⟨g, o, none⟩) (show w.heap.size + 1 ≠ g by omega) (.slice (some ⟨w.heap.size + 1 + 1, 0, none⟩) m m)
    have R5 := (k5'.out.blk br4.out (by omega)).far (p := ⟨g, o, none⟩) (show w.heap.size ≠ g by omega) (.slice (some ⟨w.heap.size + 1 + 1, 0, none⟩) m m)
    have p0 := P5.cell 0
    have p1 := P5.cell 1
    have K5 := Lib.hid ((Kb.to K4.out (Kb.below k5'.out (by omega)) (by omega)).set o (.slice (some ⟨w.heap.size + 1 + 1, 0, none⟩) m m))
    have G5 := Lib.hid (B5.set_ o (.slice (some ⟨w.heap.size + 1 + 1, 0, none⟩) m m))
    have hz5' : w5.heap[w.heap.size + 1 + 1]? = some (.cells (pcs (rows.eraseIdx i)).toArray 63 (0, 0)) := by rw [hX.out, ← splice2 Z X1 X2 (i * 2) hX1l (by omega)]; exact hz5.out
    have Z5 := Lib.hid (Blk.far hz5' (p := ⟨g, o, none⟩) (show w.heap.size + 1 + 1 ≠ g by omega) (.slice (some ⟨w.heap.size + 1 + 1, 0, none⟩) m m))
    replace R5 := Lib.hid R5
    clear k5 k5' s5 hz5 hz5' b4 br4 bp4 c04 hcell4 K4 B5 P5 hz4
    go_wp2_with (first
      | ((with_reducible refine wpList_isStore 63 (.tmp 4) (.tmp 44) rfl ?_); refine wpList_store_blk rfl 63 (.tmp 4) (.tmp 44) rfl w.heap.size #[.slice Ai ni ci, .bool ti] rfl rfl 63 pkZ R5.out (pkInfo _ _) rfl (by simp [Value.oneCell']) ?_; intro w7 n7 k7 z7; replace n7 := Lib.hid n7; replace k7 := Lib.hid k7; replace z7 := Lib.hid z7))
    refine bodyPost_ret (results_cell_row Try.results24 _ _ w.heap.size 63 _ (0, 0) _ rfl n7.out Try.underlying63 rfl (pkInfo _ _)) rfl ?_
    have G7 := k7.out.blk G5.out (by omega)
    have Z7 := k7.out.blk Z5.out (by omega)
    refine ⟨rfl, some ⟨w.heap.size + 1 + 1, 0, none⟩, m, G7, ?_, ?_, ?_⟩
    · have := op_row (base := g + 1) (rows := rows.eraseIdx i) Z7 (by omega) (by rw [hel.out]; unfold maxLen; omega)
      rwa [hel.out] at this
    · intro n hn
      have : w.heap.size + 1 + 1 = n := Option.some.inj hn
      omega
    · exact Kb.to K5.out (Kb.below k7.out (by rw [World.size_setCell]; omega)) (Nat.le_refl _)
  · obtain rfl : m = i := by omega
    have hX20 : X2.length = 0 * 2 := by omega
    have hmm : m - m = 0 := by omega
    go_wp2
    go_region_law (refine step_copy_rows rfl (.tmp 31) (.tmp 38) 49 49 rfl 63 2 (by omega) Try.underlying49 pkSize _ _ 0 _ 0 _ rfl rfl (w.heap.size + 1 + 1) (m * 2) 0 (splice Z 0 X1) 63 hz4.out X2 rfl hX20 (fun h => absurd h (by omega)) (by omega) hone2 ?_; intro w5 hz5 k5 s5)
    have h5 : w.heap.size + 3 ≤ w5.heap.size := Nat.le_trans h4 (Nat.le_of_eq s5.out.symm)
    have k5' := Lib.hid (kb_drew k5.out)
    have B5 := k5'.out.blk b4.out (by omega)
    have f5 : w5.frozen? ⟨g, o, none⟩ = false := B5.frozen o
    have d5 : w5.cell? ⟨g, o, none⟩ = some (.slice (some ad) (m + 1) c) := (kb_cell k5'.out (show g < _ by omega) (show g ≠ _ by omega)).trans c04
    have P5 := (k5'.out.blk bp4.out (by omega)).far (p := ⟨g, o, none⟩) (show w.heap.size + 1 ≠ g by omega) (.slice (some ⟨w.heap.size + 1 + 1, 0, none⟩) m m)
    have R5 := (k5'.out.blk br4.out (by omega)).far (p := ⟨g, o, none⟩) (show w.heap.size ≠ g by omega) (.slice (some ⟨w.heap.size + 1 + 1, 0, none⟩) m m)
    have p0 := P5.cell 0
    have p1 := P5.cell 1
    have K5 := Lib.hid ((Kb.to K4.out (Kb.below k5'.out (by omega)) (by omega)).set o (.slice (some ⟨w.heap.size + 1 + 1, 0, none⟩) m m))
    have G5 := Lib.hid (B5.set_ o (.slice (some ⟨w.heap.size + 1 + 1, 0, none⟩) m m))
    have hz5' : w5.heap[w.heap.size + 1 + 1]? = some (.cells (pcs (rows.eraseIdx m)).toArray 63 (0, 0)) := by rw [hX.out, ← splice2 Z X1 X2 (m * 2) hX1l (by omega)]; exact hz5.out
    have Z5 := Lib.hid (Blk.far hz5' (p := ⟨g, o, none⟩) (show w.heap.size + 1 + 1 ≠ g by omega) (.slice (some ⟨w.heap.size + 1 + 1, 0, none⟩) m m))
    replace R5 := Lib.hid R5
    clear k5 k5' s5 hz5 hz5' b4 br4 bp4 c04 hcell4 K4 B5 P5 hz4
    go_wp2_with (first
      | ((with_reducible refine wpList_isStore 63 (.tmp 4) (.tmp 44) rfl ?_); refine wpList_store_blk rfl 63 (.tmp 4) (.tmp 44) rfl w.heap.size #[.slice Ai ni ci, .bool ti] rfl rfl 63 pkZ R5.out (pkInfo _ _) rfl (by simp [Value.oneCell']) ?_; intro w7 n7 k7 z7; replace n7 := Lib.hid n7; replace k7 := Lib.hid k7; replace z7 := Lib.hid z7))
    all_goals
      refine bodyPost_ret (results_cell_row Try.results24 _ _ w.heap.size 63 _ (0, 0) _ rfl n7.out Try.underlying63 rfl (pkInfo _ _)) rfl ?_
      have G7 := k7.out.blk G5.out (by omega)
      have Z7 := k7.out.blk Z5.out (by omega)
      refine ⟨rfl, some ⟨w.heap.size + 1 + 1, 0, none⟩, m, G7, ?_, ?_, ?_⟩
      · have := op_row (base := g + 1) (rows := rows.eraseIdx m) Z7 (by omega) (by rw [hel.out]; unfold maxLen; omega)
        rwa [hel.out] at this
      · intro n hn
        have : w.heap.size + 1 + 1 = n := Option.some.inj hn
        omega
      · exact Kb.to K5.out (Kb.below k7.out (by rw [World.size_setCell]; omega)) (Nat.le_refl _)
end Ln
end Go.Proofs.Ytpkbdodclkgjpaa

