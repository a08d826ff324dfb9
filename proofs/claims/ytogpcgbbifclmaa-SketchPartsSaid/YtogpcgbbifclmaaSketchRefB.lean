/- The walks of the reference's Least and Of. No condition but sizes. -/
import Derived.Test.YtogpcgbbifclmaaSketchRef
set_option linter.unusedVariables false
set_option linter.unusedSimpArgs false
namespace Go.Proofs.Ytogpcgbbifclmaa
open Go Go.RowKit W
namespace Sk
theorem refShingles_any (l : List UInt8) (w : World) (hs : l.length ≤ 1099511627776) : Calls Try.prog 8 #[str l] w (Words w (shingles l)) := by
  by_cases h : 4 ≤ l.length
  · exact refShingles_long l w hs h
  · exact refShingles_short l w hs (by omega)
theorem shingles_le (l : List UInt8) : (shingles l).length ≤ l.length + 1 := by
  rw [shingles_length]
  split <;> omega
set_option maxHeartbeats 1000000 in
theorem refLeast_any (A : Option Addr) (c : Nat) (ws : List UInt64) (k : Nat) (w : World) (hk : k < 8) (hs : ws.length ≤ 2199023255552) (hr : Reads w w.heap.size 1 A ws.length (ws.map v64)) :
    Calls Try.prog 18 #[.slice A ws.length c, .int .i64 (k : Int)] w fun e w' => e = .returned (.int .u64 (n64 (least k ws))) ∧ Gr w w' := by
  replace hr := Lib.hid hr
  go_enter Try.func18, Try.ntmps18
  go_wp2
  go_loopw [5, 6, 7] (fun o i _ wr => ∃ j : Nat, j ≤ ws.length ∧ i = .int .i64 (j : Int) ∧ o = .int .u64 (n64 (least k (ws.take j))) ∧ Gr w wr) (fun _ i _ _ => ws.length - (intOf i).toNat)
  case atStart => exact ⟨0, by omega, rfl, rfl, Gr.refl w⟩
  case round =>
    obtain ⟨j, hj, rfl, rfl, hg⟩ := hrel
    by_cases h : j < ws.length
    · obtain ⟨ad, u, hA, _, hu, hc⟩ := (hr.out.below hg).at_ h
      have hu' : ws[j]?.map v64 = some u := by rw [← hu, List.getElem?_map]
      rw [List.getElem?_eq_getElem h] at hu'
      obtain rfl : v64 ws[j] = u := Option.some.inj hu'
      subst hA
      have hc' : wr.cell? (ad.add j) = some (.int .u64 (n64 ws[j])) := hc
      have hl := Lib.hid (show least k (ws.take (j + 1)) = lesser (least k (ws.take j)) (rnd k ws[j]) by rw [List.take_succ_eq_append_getElem h, least_snoc])
      have hro := Lib.hid (fun w => Mix.refRound_any (UInt64.ofNat k + 1, UInt64.ofNat k) ws[j] w)
      have hrd : Hid (rnd k ws[j] = (Mix.round (UInt64.ofNat k + 1, UInt64.ofNat k) ws[j]).2) := Lib.hid rfl
      replace hg := Lib.hid hg
      clear hc hu hu'
      generalize ws[j] = x at *
      generalize Mix.round (UInt64.ofNat k + 1, UInt64.ofNat k) x = p at *
      have z1 : (j : Int) < (ws.length : Int) := by omega
      have hfd : ∀ w : World, (Instr.field 43 (.agg #[.int .u64 (n64 p.1), .int .u64 (n64 p.2)]) 1).run Try.prog w = .ok (.int .u64 (n64 p.2)) w := fun _ => by kernel_rfl
      by_cases hlt : n64 p.2 < n64 (least k (ws.take j))
      · go_wp2_with (go_at_call 20; refine (hro.out _).mono ?_; clear hro; rintro e w1 ⟨rfl, hg1⟩; replace hg1 := Lib.hid hg1)
        go_roundw
        case rel =>
          refine ⟨j + 1, by omega, by go_num, ?_, Gr.trans hg.out hg1.out⟩
          rw [hl.out, hrd.out]
          unfold lesser
          rw [if_pos]
          rw [UInt64.lt_iff_toNat_lt]
          simp only [n64_def] at hlt
          omega
        case measure => simp [intOf]; omega
      · go_wp2_with (go_at_call 20; refine (hro.out _).mono ?_; clear hro; rintro e w1 ⟨rfl, hg1⟩; replace hg1 := Lib.hid hg1)
        go_roundw
        case rel =>
          refine ⟨j + 1, by omega, by go_num, ?_, Gr.trans hg.out hg1.out⟩
          rw [hl.out, hrd.out]
          unfold lesser
          rw [if_neg]
          rw [UInt64.lt_iff_toNat_lt]
          simp only [n64_def] at hlt
          omega
        case measure => simp [intOf]; omega
    · obtain rfl : j = ws.length := by omega
      go_wp2
      go_ret
      exact ⟨by rw [List.take_length]; rfl, hg⟩
/-- The first k numbers, the rest 0. -/
def some8 (ws : List UInt64) (k : Nat) : List UInt64 := (List.range 8).map fun j => if j < k then least j ws else 0
theorem some8_length (ws : List UInt64) (k : Nat) : (some8 ws k).length = 8 := by unfold some8; simp
theorem some8_zero (ws : List UInt64) : some8 ws 0 = List.replicate 8 0 := by
  unfold some8
  simp
  rfl
theorem some8_all (l : List UInt8) : some8 (shingles l) 8 = sk l := by
  unfold some8 sk
  apply List.map_congr_left
  intro j hj
  rw [if_pos (List.mem_range.1 hj)]
theorem some8_set (ws : List UInt64) (k : Nat) (hk : k < 8) : (some8 ws k).set k (least k ws) = some8 ws (k + 1) := by
  refine List.ext_getElem? (fun j => ?_)
  unfold some8
  rw [List.getElem?_set]
  by_cases h : k = j
  · subst h
    simp [hk]
  · rw [if_neg h]
    by_cases h8 : j < 8
    · rw [List.getElem?_map, List.getElem?_map, List.getElem?_range h8]
      simp only [Option.map_some]
      by_cases h1 : j < k
      · rw [if_pos h1, if_pos (by omega)]
      · rw [if_neg h1, if_neg (by omega)]
    · rw [List.getElem?_eq_none (by simp; omega), List.getElem?_eq_none (by simp; omega)]
set_option maxHeartbeats 1000000 in
theorem refOf_any (l : List UInt8) (w : World) (hs : l.length ≤ 1099511627776) :
    Calls Try.prog 10 #[str l] w fun e w' => e = .returned (.agg (vs (sk l))) ∧ Gr w w' := by
  have ba := Lib.hid ((Blk.new w 30 (vs (List.replicate 8 0))).alloc (.cells (vs (List.replicate 8 0)) 30))
  have bb := Blk.new (w.alloc (.cells (vs (List.replicate 8 0)) 30)) 30 (vs (List.replicate 8 0))
  rw [World.size_alloc] at bb
  replace bb := Lib.hid bb
  have g0 := Lib.hid (((Gr.refl w).alloc (.cells (vs (List.replicate 8 0)) 30)).alloc (.cells (vs (List.replicate 8 0)) 30))
  have hsh := Lib.hid (fun w => refShingles_any l w hs)
  go_enter Try.func10, Try.ntmps10
  go_wp2_with fail
  go_at_call 8
  refine (hsh.out _).mono ?_
  rintro e w1 ⟨A, c, rfl, hown, hg1⟩
  have ka := Lib.hid (ba.out.below hg1 ba.out.lt)
  have kb := Lib.hid (bb.out.below hg1 bb.out.lt)
  have hw : ((w.alloc (.cells (vs (List.replicate 8 0)) 30)).alloc (.cells (vs (List.replicate 8 0)) 30)).heap.size = w.heap.size + 2 := by simp
  have ho : OR 29 1 w1 (w.heap.size + 2) (.slice A (shingles l).length c) (shingles l).length ((shingles l).map v64) := hw ▸ hown
  replace ho := Lib.hid ho
  have hg := Lib.hid (Gr.trans g0.out hg1)
  have hle := shingles_le l
  clear hown hg1 ba bb g0 hw
  go_wp2
  go_loopw [5] (fun i wr => ∃ k : Nat, k ≤ 8 ∧ i = .int .i64 (k : Int) ∧ Blk wr w.heap.size 30 (vs (List.replicate 8 0)) ∧ Blk wr (w.heap.size + 1) 30 (vs (some8 (shingles l) k)) ∧
    OR 29 1 wr (w.heap.size + 2) (.slice A (shingles l).length c) (shingles l).length ((shingles l).map v64) ∧ Gr w wr) (fun i _ => 8 - (intOf i).toNat)
  case atStart => exact ⟨0, by omega, rfl, ka.out, by rw [some8_zero]; exact kb.out, ho.out, hg.out⟩
  case round =>
    clear ka kb ho hg
    obtain ⟨k, hk, rfl, ka, kb, ho, hg⟩ := hrel
    by_cases h : k < 8
    · have hle1 := Lib.hid (fun w hr => refLeast_any A c (shingles l) k w h (by omega) hr)
      obtain ⟨x, hx⟩ : ∃ x : UInt64, (some8 (shingles l) k)[k]? = some x := ⟨_, List.getElem?_eq_getElem (by rw [some8_length]; exact h)⟩
      replace hx := Lib.hid hx
      have hset := Lib.hid (some8_set (shingles l) k h)
      replace ka := Lib.hid ka
      replace kb := Lib.hid kb
      replace ho := Lib.hid ho
      replace hg := Lib.hid hg
      clear hle
      have z1 : (k : Int) < 8 := by omega
      go_wp2_with fail
      go_at_call 18
      refine (hle1.out _ ho.out.reads).mono ?_
      clear hle1
      rintro e w2 ⟨rfl, hg2⟩
      have kb2 := kb.out.below hg2 kb.out.lt
      have hc : w2.cell? ⟨w.heap.size + 1, k, none⟩ = some (.int .u64 (n64 x)) := by rw [kb2.cell, vs_at, hx.out]; rfl
      have hf := kb2.frozen k
      have ka' := Lib.hid ((ka.out.below hg2 ka.out.lt).far (p := ⟨w.heap.size + 1, k, none⟩) (by simp) (.int .u64 (n64 (least k (shingles l)))))
      have kb' := kb2.set_ k (.int .u64 (n64 (least k (shingles l))))
      rw [vs_set, hset.out] at kb'
      have ho' := Lib.hid ((ho.out.below hg2).setFar (p := ⟨w.heap.size + 1, k, none⟩) (by simp) (.int .u64 (n64 (least k (shingles l)))))
      have hg' := Lib.hid ((Gr.trans hg.out hg2).setCell (p := ⟨w.heap.size + 1, k, none⟩) (by simp) (.int .u64 (n64 (least k (shingles l)))))
      replace kb' := Lib.hid kb'
      clear ka kb ho hg hg2 kb2 hset hx
      go_wp2
      go_roundw
      case rel => exact ⟨k + 1, by omega, by go_num, ka'.out, kb'.out, ho'.out, hg'.out⟩
      case measure => simp [intOf]; omega
    · obtain rfl : k = 8 := by omega
      rw [some8_all] at kb
      have hm := sk_length l
      have ka' := Lib.hid (ka.row (vs (sk l)))
      have hg' := Lib.hid (below_setRow hg (Nat.le_refl _) (vs (sk l)))
      replace ka := Lib.hid ka
      replace kb := Lib.hid kb
      clear ho hg hle
      go_wp2_with (first
        | refine wpList_load_row rfl 30 _ rfl (w.heap.size + 1) rfl 30 (vs (sk l)) (0, 0) _ kb.out Try.underlying30 rfl (info8' hm) ?_
        | refine wpList_store_row rfl 30 _ _ rfl w.heap.size (vs (sk l)) rfl rfl 30 (vs (List.replicate 8 0)) ka.out (info8' hm) (by rw [vs_size, vs_size, hm]; rfl) (vs_cells _) ?_)
      refine bodyPost_ret (results_cell_row Try.results10 _ _ w.heap.size 30 _ (0, 0) _ rfl ka'.out Try.underlying30 rfl (info8' hm)) rfl ⟨rfl, hg'.out⟩
end Sk
end Go.Proofs.Ytogpcgbbifclmaa

