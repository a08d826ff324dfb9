/- The walks of awake and of FrameGets. No condition but that the sums' table is laid. -/
import Derived.Test.YtgkcbhijkcbjkaaDoorFrmGetR
set_option linter.unusedVariables false
set_option linter.unusedSimpArgs false
namespace Go.Proofs.YtgkcbhijkcbjkaaDoor
open Go Go.RowKit W Vint Crc
namespace Fm
attribute [go_sem] gotF
theorem put_zero : putF zero = [0, 0, 0, 0, 28, 223, 68, 33] := by decide +kernel
set_option maxHeartbeats 2000000 in
theorem awake_any (w : World) (hH : Halves w) : Calls Tryd.prog 6 #[] w fun e w' => e = .returned (.bool true) ∧ Gr w w' := by
  have hp := Lib.hid (put_any zero w (by simp [zero]) hH)
  rw [put_zero] at hp
  clear hH
  go_enter Tryd.func6, Tryd.ntmps6
  go_wp2_with fail
  go_at_call 11
  refine hp.out.mono ?_
  rintro e w1 ⟨v, rfl, ⟨A, c, rfl, _, _, hr⟩, g1⟩
  replace hr := Lib.hid hr
  replace g1 := Lib.hid g1
  clear hp
  go_wp2_with (first
    | (refine wpList_bytes_string rfl (.tmp 2) 22 9 5 rfl Tryd.underlying22 Vint.byteType.1 Tryd.underlying9 _ _ _ _ [0, 0, 0, 0, 28, 223, 68, 33] rfl rfl hr.out ?_))
  go_ret
  exact ⟨rfl, g1.out⟩
theorem gets_right (l : List UInt8) : (getF l).2 = 0 → right (getF l).1 = true ∧ putF (getF l).1 = l := getF_back l
theorem getF_d (l : List UInt8) (h : l.length ≤ 1000000) : (getF l).1.d.length ≤ 9223372036854775807 := by
  unfold getF
  split
  · simp [zero]
  · unfold endF
    split
    · simp [zero]
    · have := (getText_short (get (get (get ((opened l).1, 0) 255).1 most64).1 most64).1 131072).2.2
      show (getText (get (get (get ((opened l).1, 0) 255).1 most64).1 most64).1 131072).2.length ≤ _
      omega
set_option maxRecDepth 100000 in
set_option maxHeartbeats 4000000 in
theorem frameGets_walk (A : Option Addr) (c : Nat) (l : List UInt8) (w : World) (hc : l.length ≤ c) (hm : c ≤ maxLen) (hr : RB w w.heap.size A l) (hH0 : Halves w) :
    Calls Tryd.prog 3 #[.slice A l.length c] w (Ret (eqv (.bool true)) w) := by
  have hHw := Lib.hid hH0
  clear hH0
  by_cases h500 : l.length ≤ 500
  · have h500' : ¬ (500 : Int) < (l.length : Int) := by omega
    have hr0 := Lib.hid hr
    have hc1 := Lib.hid (get_any A c l w (by omega) hc hm hr hHw.out)
    have hc2 := Lib.hid (fun w => refGetw_any l w (by omega))
    have hc3 := Lib.hid (fun w => refSeal_any l w (by omega))
    obtain ⟨S, hS⟩ : ∃ S, sealed l = S := ⟨_, rfl⟩
    have hSl : S.length = l.length + 4 := by rw [← hS]; exact sealed_length l
    rw [hS] at hc3
    obtain ⟨G, hG⟩ : ∃ G, getF l = G := ⟨_, rfl⟩
    rw [hG] at hc1 hc2
    obtain ⟨G2, hG2⟩ : ∃ G2, getF S = G2 := ⟨_, rfl⟩
    have hS6 : S.length ≤ 1000000 := by omega
    have hc4 := Lib.hid (fun w => refGetw_any S w hS6)
    rw [hG2] at hc4
    have hbk : G2.2 = 0 → putF G2.1 = S := by rw [← hG2]; exact fun h => (getF_back S h).2
    have hd2 : G2.1.d.length ≤ 9223372036854775807 := by rw [← hG2]; exact getF_d S hS6
    have hSl' := Lib.hid hSl
    clear hSl
    have hG2' := Lib.hid hG2
    replace hbk := Lib.hid hbk
    replace hd2 := Lib.hid hd2
    clear hr hS hG hG2
    go_enter Tryd.func3, Tryd.ntmps3
    go_wp2_with fail
    go_at_call 7
    refine hc1.out.mono ?_
    rintro e w1 ⟨rfl, g1⟩
    have x3 := Lib.hid (Blk.new w1 26 (fc G.1))
    have GG := Lib.hid (g1.alloc (.cells (fc G.1) 26))
    have hrb := Lib.hid ((hr0.out.below GG.out).more (Below.size GG.out))
    clear hc1 g1
    go_wp2_with (first
      | (refine wpList_bytes_string rfl (.tmp 22) 22 9 5 rfl Tryd.underlying22 Vint.byteType.1 Tryd.underlying9 _ _ _ _ l rfl rfl hrb.out ?_))
    go_at_call 8
    refine (hc2.out _).mono ?_
    rintro e w2 ⟨rfl, g2⟩
    have x3 := Lib.hid ((blk_more x3.out g2).alloc (.cells (fc G.1) 30))
    have x5 := Lib.hid (Blk.new w2 30 (fc G.1))
    have GG := Lib.hid ((Gr.trans GG.out g2).alloc (.cells (fc G.1) 30))
    have hrb := Lib.hid ((hr0.out.below GG.out).more (Below.size GG.out))
    clear hc2 g2
    go_wp2_with (first
      | (refine wpList_bytes_string rfl (.tmp 27) 22 9 5 rfl Tryd.underlying22 Vint.byteType.1 Tryd.underlying9 _ _ _ _ l rfl rfl hrb.out ?_))
    go_at_call 9
    refine (hc3.out _).mono ?_
    rintro e w3 ⟨rfl, g3⟩
    have x3 := Lib.hid (blk_more x3.out g3)
    have x5 := Lib.hid (blk_more x5.out g3)
    have GG := Lib.hid (Gr.trans GG.out g3)
    clear hc3 g3 hrb
    go_wp2_with (first
      | (refine wpList_string_bytes rfl (.tmp 29) 9 22 5 rfl Tryd.underlying9 Tryd.underlying22 Vint.byteType.1 S rfl (by unfold maxLen; have := hSl'.out; omega) ?_; intro c7 w4 hwb hc7 hm7 g4; have x3 := Lib.hid (blk_more x3.out g4); have x5 := Lib.hid (blk_more x5.out g4); have GG := Lib.hid (Gr.trans GG.out g4); have rS := Lib.hid hwb.rb; clear g4 hwb))
    have hc5 := Lib.hid (get_any (some ⟨w3.heap.size, 0, none⟩) c7 S w4 hS6 hc7 hm7 rS.out (hHw.out.gr hHw.out.lt GG.out))
    rw [hG2'.out] at hc5
    go_at_call 7
    refine hc5.out.mono ?_
    rintro e w5 ⟨rfl, g5⟩
    have x3 := Lib.hid ((blk_more x3.out g5).alloc (.cells (fc G2.1) 26))
    have x5 := Lib.hid ((blk_more x5.out g5).alloc (.cells (fc G2.1) 26))
    have x8 := Lib.hid (Blk.new w5 26 (fc G2.1))
    have g5' := g5.alloc (.cells (fc G2.1) 26)
    have rS := Lib.hid ((rS.out.below g5').more g5'.size)
    have GG := Lib.hid (Gr.trans GG.out g5')
    clear hc5 g5 g5'
    go_wp2_with (first
      | (refine wpList_bytes_string rfl (.tmp 37) 22 9 5 rfl Tryd.underlying22 Vint.byteType.1 Tryd.underlying9 _ _ _ _ S rfl rfl rS.out ?_))
    go_at_call 8
    refine (hc4.out _).mono ?_
    rintro e w6 ⟨rfl, g6⟩
    have x3 := Lib.hid ((blk_more x3.out g6).alloc (.cells (fc G2.1) 30))
    have x5 := Lib.hid ((blk_more x5.out g6).alloc (.cells (fc G2.1) 30))
    have x8 := Lib.hid ((blk_more x8.out g6).alloc (.cells (fc G2.1) 30))
    have x10 := Lib.hid (Blk.new w6 30 (fc G2.1))
    have g6' := g6.alloc (.cells (fc G2.1) 30)
    have rS := Lib.hid ((rS.out.below g6').more g6'.size)
    have GG := Lib.hid (Gr.trans GG.out g6')
    have hH := Lib.hid (hHw.out.gr hHw.out.lt GG.out)
    clear hc4 g6 g6'
    go_wp2
    by_cases hcd : G2.2 = 0
    · have hpb := hbk.out hcd
      refine region_grow (by kernel_rfl) (by kernel_rfl) ?_
      refine GW.call0 (eqv (.bool true)) rfl trivial rfl Tryd.func6 (by kernel_rfl) (by kernel_rfl) (eqv_lasts _)  (fun w' hg => ?_) ?_
      · refine (awake_any w' (hH.out.gr hH.out.lt hg)).mono ?_
        rintro e w9 ⟨rfl, hg9⟩
        exact ⟨_, rfl, rfl, hg9⟩
      refine GW.mv rfl trivial (.inl rfl) (kn (t := 42) (j := 0) (by kernel_rfl)) (eqv_lasts _) ?_
      refine GW.p1 (frmV G.1) rfl ⟨43, by kernel_rfl, by kernel_rfl, fun _ _ h => h⟩ (kn0 (t := 3) (c := .pointer (some ⟨w1.heap.size, 0, none⟩)) (by kernel_rfl) rfl) (fun ρ w' hρ hg => by simp [execOp, hρ, go_sem, (hg.cell (p := ⟨w1.heap.size, 0, none⟩) x3.out.lt).trans (x3.out.cell 0), (hg.cell (p := ⟨w1.heap.size, 1, none⟩) x3.out.lt).trans (x3.out.cell 1), (hg.cell (p := ⟨w1.heap.size, 2, none⟩) x3.out.lt).trans (x3.out.cell 2), (hg.cell (p := ⟨w1.heap.size, 3, none⟩) x3.out.lt).trans (x3.out.cell 3)]) ?_
      refine GW.p1 (frmV G.1) rfl ⟨43, by kernel_rfl, by kernel_rfl, fun _ _ h => h⟩ (kn0 (t := 5) (c := .pointer (some ⟨w2.heap.size, 0, none⟩)) (by kernel_rfl) rfl) (fun ρ w' hρ hg => by simp [execOp, hρ, go_sem, (hg.cell (p := ⟨w2.heap.size, 0, none⟩) x5.out.lt).trans (x5.out.cell 0), (hg.cell (p := ⟨w2.heap.size, 1, none⟩) x5.out.lt).trans (x5.out.cell 1), (hg.cell (p := ⟨w2.heap.size, 2, none⟩) x5.out.lt).trans (x5.out.cell 2), (hg.cell (p := ⟨w2.heap.size, 3, none⟩) x5.out.lt).trans (x5.out.cell 3)]) ?_
      refine GW.call2 (eqv (.bool true)) rfl ⟨43, by kernel_rfl, by kernel_rfl, fun _ _ h => h⟩ rfl Tryd.func10 (by kernel_rfl) (by kernel_rfl) (eqv_lasts _) (kn (t := 44) (j := 2) (by kernel_rfl)) (kn (t := 45) (j := 3) (by kernel_rfl)) (fun v u w' hg hv hu => ?_) ?_
      · obtain rfl : v = _ := hv
        obtain rfl : u = _ := hu
        refine (is_same G.1 w').mono ?_
        rintro e w9 ⟨rfl, hg9⟩
        exact ⟨_, rfl, rfl, hg9⟩
      refine GW.pick (b := true) rfl trivial rfl (kn (t := 43) (j := 1) (by kernel_rfl)) (kn (t := 46) (j := 4) (by kernel_rfl)) (eqv_lasts _) ?_
      refine GW.mv rfl trivial (.inl rfl) (kn (t := 47) (j := 5) (by kernel_rfl)) (eqv_lasts _) ?_
      refine GW.mv rfl ⟨48, by kernel_rfl, by kernel_rfl, fun _ _ h => h⟩ (.inl rfl) (kn0 (t := 4) (c := .int .i64 (G.2 : Int)) (by kernel_rfl) rfl) (eqv_lasts _) ?_
      refine GW.mv rfl ⟨48, by kernel_rfl, by kernel_rfl, fun _ _ h => h⟩ (.inl rfl) (kn0 (t := 6) (c := .int .i64 (G.2 : Int)) (by kernel_rfl) rfl) (eqv_lasts _) ?_
      refine GW.bin (.bool true) rfl ⟨48, by kernel_rfl, by kernel_rfl, fun _ _ h => h⟩ rfl (kn (t := 49) (j := 7) (by kernel_rfl)) (kn (t := 50) (j := 8) (by kernel_rfl)) (fun w' => by simp [go_sem]) ?_
      refine GW.pick (b := true) rfl trivial rfl (kn (t := 48) (j := 6) (by kernel_rfl)) (kn (t := 51) (j := 9) (by kernel_rfl)) (eqv_lasts _) ?_
      refine GW.mv rfl trivial (.inl rfl) (kn (t := 52) (j := 10) (by kernel_rfl)) (eqv_lasts _) ?_
      refine GW.p1 (frmV G2.1) rfl ⟨53, by kernel_rfl, by kernel_rfl, fun _ _ h => h⟩ (kn0 (t := 8) (c := .pointer (some ⟨w5.heap.size, 0, none⟩)) (by kernel_rfl) rfl) (fun ρ w' hρ hg => by simp [execOp, hρ, go_sem, (hg.cell (p := ⟨w5.heap.size, 0, none⟩) x8.out.lt).trans (x8.out.cell 0), (hg.cell (p := ⟨w5.heap.size, 1, none⟩) x8.out.lt).trans (x8.out.cell 1), (hg.cell (p := ⟨w5.heap.size, 2, none⟩) x8.out.lt).trans (x8.out.cell 2), (hg.cell (p := ⟨w5.heap.size, 3, none⟩) x8.out.lt).trans (x8.out.cell 3)]) ?_
      refine GW.p1 (frmV G2.1) rfl ⟨53, by kernel_rfl, by kernel_rfl, fun _ _ h => h⟩ (kn0 (t := 10) (c := .pointer (some ⟨w6.heap.size, 0, none⟩)) (by kernel_rfl) rfl) (fun ρ w' hρ hg => by simp [execOp, hρ, go_sem, (hg.cell (p := ⟨w6.heap.size, 0, none⟩) x10.out.lt).trans (x10.out.cell 0), (hg.cell (p := ⟨w6.heap.size, 1, none⟩) x10.out.lt).trans (x10.out.cell 1), (hg.cell (p := ⟨w6.heap.size, 2, none⟩) x10.out.lt).trans (x10.out.cell 2), (hg.cell (p := ⟨w6.heap.size, 3, none⟩) x10.out.lt).trans (x10.out.cell 3)]) ?_
      refine GW.call2 (eqv (.bool true)) rfl ⟨53, by kernel_rfl, by kernel_rfl, fun _ _ h => h⟩ rfl Tryd.func10 (by kernel_rfl) (by kernel_rfl) (eqv_lasts _) (kn (t := 54) (j := 12) (by kernel_rfl)) (kn (t := 55) (j := 13) (by kernel_rfl)) (fun v u w' hg hv hu => ?_) ?_
      · obtain rfl : v = _ := hv
        obtain rfl : u = _ := hu
        refine (is_same G2.1 w').mono ?_
        rintro e w9 ⟨rfl, hg9⟩
        exact ⟨_, rfl, rfl, hg9⟩
      refine GW.pick (b := true) rfl trivial rfl (kn (t := 53) (j := 11) (by kernel_rfl)) (kn (t := 56) (j := 14) (by kernel_rfl)) (eqv_lasts _) ?_
      refine GW.mv rfl trivial (.inl rfl) (kn (t := 57) (j := 15) (by kernel_rfl)) (eqv_lasts _) ?_
      refine GW.mv rfl ⟨58, by kernel_rfl, by kernel_rfl, fun _ _ h => h⟩ (.inl rfl) (kn0 (t := 9) (c := .int .i64 (G2.2 : Int)) (by kernel_rfl) rfl) (eqv_lasts _) ?_
      refine GW.mv rfl ⟨58, by kernel_rfl, by kernel_rfl, fun _ _ h => h⟩ (.inl rfl) (kn0 (t := 11) (c := .int .i64 (G2.2 : Int)) (by kernel_rfl) rfl) (eqv_lasts _) ?_
      refine GW.bin (.bool true) rfl ⟨58, by kernel_rfl, by kernel_rfl, fun _ _ h => h⟩ rfl (kn (t := 59) (j := 17) (by kernel_rfl)) (kn (t := 60) (j := 18) (by kernel_rfl)) (fun w' => by simp [go_sem]) ?_
      refine GW.pick (b := true) rfl trivial rfl (kn (t := 58) (j := 16) (by kernel_rfl)) (kn (t := 61) (j := 19) (by kernel_rfl)) (eqv_lasts _) ?_
      refine GW.mv rfl trivial (.inl rfl) (kn (t := 62) (j := 20) (by kernel_rfl)) (eqv_lasts _) ?_
      refine GW.mv rfl ⟨63, by kernel_rfl, by kernel_rfl, fun _ _ h => h⟩ (.inl rfl) (kn0 (t := 11) (c := .int .i64 (G2.2 : Int)) (by kernel_rfl) rfl) (eqv_lasts _) ?_
      refine GW.bin (.bool false) rfl ⟨63, by kernel_rfl, by kernel_rfl, fun _ _ h => h⟩ rfl (kn (t := 64) (j := 22) (by kernel_rfl)) knc (fun w' => by simp [go_sem, hcd]) ?_
      refine GW.mv rfl ⟨63, by kernel_rfl, by kernel_rfl, fun _ _ h => h⟩ (.inl rfl) (kn (t := 65) (j := 23) (by kernel_rfl)) (eqv_lasts _) ?_
      refine GW.p1 (frmV G2.1) rfl ⟨66, by kernel_rfl, by kernel_rfl, fun _ _ h => h⟩ (kn0 (t := 8) (c := .pointer (some ⟨w5.heap.size, 0, none⟩)) (by kernel_rfl) rfl) (fun ρ w' hρ hg => by simp [execOp, hρ, go_sem, (hg.cell (p := ⟨w5.heap.size, 0, none⟩) x8.out.lt).trans (x8.out.cell 0), (hg.cell (p := ⟨w5.heap.size, 1, none⟩) x8.out.lt).trans (x8.out.cell 1), (hg.cell (p := ⟨w5.heap.size, 2, none⟩) x8.out.lt).trans (x8.out.cell 2), (hg.cell (p := ⟨w5.heap.size, 3, none⟩) x8.out.lt).trans (x8.out.cell 3)]) ?_
      refine GW.call1 (isB S) rfl ⟨66, by kernel_rfl, by kernel_rfl, fun _ _ h => h⟩ rfl Tryd.func11 (by kernel_rfl) (by kernel_rfl) (isB_lasts _) (kn (t := 67) (j := 25) (by kernel_rfl)) (fun v w' hg hv => ?_) ?_
      · obtain rfl : v = _ := hv
        refine (put_any G2.1 w' hd2.out (hH.out.gr hH.out.lt hg)).mono ?_
        rw [hpb]
        rintro e w9 ⟨v9, rfl, hv9, hg9⟩
        exact ⟨_, rfl, hv9, hg9⟩
      refine GW.bs (S) rfl ⟨66, by kernel_rfl, by kernel_rfl, fun _ _ h => h⟩ rfl Tryd.underlying22 Vint.byteType.1 Tryd.underlying9 (kn (t := 68) (j := 26) (by kernel_rfl)) ?_
      refine GW.mv rfl ⟨66, by kernel_rfl, by kernel_rfl, fun _ _ h => h⟩ (.inl rfl) (kn0' (t := 7) (c := .slice (some ⟨w3.heap.size, 0, none⟩) S.length c7) (by kernel_rfl) rfl (isB_lasts _) (⟨_, c7, rfl, hc7, hm7, rS.out⟩)) (isB_lasts _) ?_
      refine GW.bs (S) rfl ⟨66, by kernel_rfl, by kernel_rfl, fun _ _ h => h⟩ rfl Tryd.underlying22 Vint.byteType.1 Tryd.underlying9 (kn (t := 70) (j := 28) (by kernel_rfl)) ?_
      refine GW.bin (.bool true) rfl ⟨66, by kernel_rfl, by kernel_rfl, fun _ _ h => h⟩ rfl (kn (t := 69) (j := 27) (by kernel_rfl)) (kn (t := 71) (j := 29) (by kernel_rfl)) (fun w' => run_eql_str rfl _ _ _ w') ?_
      refine GW.pick (b := false) rfl ⟨63, by kernel_rfl, by kernel_rfl, fun _ _ h => h⟩ rfl (kn (t := 66) (j := 24) (by kernel_rfl)) (kn (t := 72) (j := 30) (by kernel_rfl)) (eqv_lasts _) ?_
      refine GW.pick (b := true) rfl trivial rfl (kn (t := 63) (j := 21) (by kernel_rfl)) (kn (t := 73) (j := 31) (by kernel_rfl)) (eqv_lasts _) ?_
      refine GW.mv rfl trivial (.inr rfl) (kn (t := 74) (j := 32) (by kernel_rfl)) (eqv_lasts _) ?_
      refine GW.done (by simp) (by kernel_rfl) (fun w' hg => ?_)
      intro v0 _ v1 _ v2 _ v3 _ v4 _ v5 _ v6 _ v7 _ v8 _ v9 _ v10 _ v11 _ v12 _ v13 _ v14 _ v15 _ v16 _ v17 _ v18 _ v19 _ v20 _ v21 _ v22 _ v23 _ v24 _ v25 _ v26 _ v27 _ v28 _ v29 _ v30 _ v31 _ v32 _ v33 h33
      obtain rfl : v33 = (.bool true) := h33
      simp only [GFin, Act.put, List.setIfInBounds_toArray, List.set_cons_succ, List.set_cons_zero]
      have G9 := Lib.hid (Gr.trans GG.out hg)
      clear hpb
      go_wp2
      go_ret
      exact ⟨_, rfl, rfl, G9.out⟩
    · refine region_grow (by kernel_rfl) (by kernel_rfl) ?_
      refine GW.call0 (eqv (.bool true)) rfl trivial rfl Tryd.func6 (by kernel_rfl) (by kernel_rfl) (eqv_lasts _)  (fun w' hg => ?_) ?_
      · refine (awake_any w' (hH.out.gr hH.out.lt hg)).mono ?_
        rintro e w9 ⟨rfl, hg9⟩
        exact ⟨_, rfl, rfl, hg9⟩
      refine GW.mv rfl trivial (.inl rfl) (kn (t := 42) (j := 0) (by kernel_rfl)) (eqv_lasts _) ?_
      refine GW.p1 (frmV G.1) rfl ⟨43, by kernel_rfl, by kernel_rfl, fun _ _ h => h⟩ (kn0 (t := 3) (c := .pointer (some ⟨w1.heap.size, 0, none⟩)) (by kernel_rfl) rfl) (fun ρ w' hρ hg => by simp [execOp, hρ, go_sem, (hg.cell (p := ⟨w1.heap.size, 0, none⟩) x3.out.lt).trans (x3.out.cell 0), (hg.cell (p := ⟨w1.heap.size, 1, none⟩) x3.out.lt).trans (x3.out.cell 1), (hg.cell (p := ⟨w1.heap.size, 2, none⟩) x3.out.lt).trans (x3.out.cell 2), (hg.cell (p := ⟨w1.heap.size, 3, none⟩) x3.out.lt).trans (x3.out.cell 3)]) ?_
      refine GW.p1 (frmV G.1) rfl ⟨43, by kernel_rfl, by kernel_rfl, fun _ _ h => h⟩ (kn0 (t := 5) (c := .pointer (some ⟨w2.heap.size, 0, none⟩)) (by kernel_rfl) rfl) (fun ρ w' hρ hg => by simp [execOp, hρ, go_sem, (hg.cell (p := ⟨w2.heap.size, 0, none⟩) x5.out.lt).trans (x5.out.cell 0), (hg.cell (p := ⟨w2.heap.size, 1, none⟩) x5.out.lt).trans (x5.out.cell 1), (hg.cell (p := ⟨w2.heap.size, 2, none⟩) x5.out.lt).trans (x5.out.cell 2), (hg.cell (p := ⟨w2.heap.size, 3, none⟩) x5.out.lt).trans (x5.out.cell 3)]) ?_
      refine GW.call2 (eqv (.bool true)) rfl ⟨43, by kernel_rfl, by kernel_rfl, fun _ _ h => h⟩ rfl Tryd.func10 (by kernel_rfl) (by kernel_rfl) (eqv_lasts _) (kn (t := 44) (j := 2) (by kernel_rfl)) (kn (t := 45) (j := 3) (by kernel_rfl)) (fun v u w' hg hv hu => ?_) ?_
      · obtain rfl : v = _ := hv
        obtain rfl : u = _ := hu
        refine (is_same G.1 w').mono ?_
        rintro e w9 ⟨rfl, hg9⟩
        exact ⟨_, rfl, rfl, hg9⟩
      refine GW.pick (b := true) rfl trivial rfl (kn (t := 43) (j := 1) (by kernel_rfl)) (kn (t := 46) (j := 4) (by kernel_rfl)) (eqv_lasts _) ?_
      refine GW.mv rfl trivial (.inl rfl) (kn (t := 47) (j := 5) (by kernel_rfl)) (eqv_lasts _) ?_
      refine GW.mv rfl ⟨48, by kernel_rfl, by kernel_rfl, fun _ _ h => h⟩ (.inl rfl) (kn0 (t := 4) (c := .int .i64 (G.2 : Int)) (by kernel_rfl) rfl) (eqv_lasts _) ?_
      refine GW.mv rfl ⟨48, by kernel_rfl, by kernel_rfl, fun _ _ h => h⟩ (.inl rfl) (kn0 (t := 6) (c := .int .i64 (G.2 : Int)) (by kernel_rfl) rfl) (eqv_lasts _) ?_
      refine GW.bin (.bool true) rfl ⟨48, by kernel_rfl, by kernel_rfl, fun _ _ h => h⟩ rfl (kn (t := 49) (j := 7) (by kernel_rfl)) (kn (t := 50) (j := 8) (by kernel_rfl)) (fun w' => by simp [go_sem]) ?_
      refine GW.pick (b := true) rfl trivial rfl (kn (t := 48) (j := 6) (by kernel_rfl)) (kn (t := 51) (j := 9) (by kernel_rfl)) (eqv_lasts _) ?_
      refine GW.mv rfl trivial (.inl rfl) (kn (t := 52) (j := 10) (by kernel_rfl)) (eqv_lasts _) ?_
      refine GW.p1 (frmV G2.1) rfl ⟨53, by kernel_rfl, by kernel_rfl, fun _ _ h => h⟩ (kn0 (t := 8) (c := .pointer (some ⟨w5.heap.size, 0, none⟩)) (by kernel_rfl) rfl) (fun ρ w' hρ hg => by simp [execOp, hρ, go_sem, (hg.cell (p := ⟨w5.heap.size, 0, none⟩) x8.out.lt).trans (x8.out.cell 0), (hg.cell (p := ⟨w5.heap.size, 1, none⟩) x8.out.lt).trans (x8.out.cell 1), (hg.cell (p := ⟨w5.heap.size, 2, none⟩) x8.out.lt).trans (x8.out.cell 2), (hg.cell (p := ⟨w5.heap.size, 3, none⟩) x8.out.lt).trans (x8.out.cell 3)]) ?_
      refine GW.p1 (frmV G2.1) rfl ⟨53, by kernel_rfl, by kernel_rfl, fun _ _ h => h⟩ (kn0 (t := 10) (c := .pointer (some ⟨w6.heap.size, 0, none⟩)) (by kernel_rfl) rfl) (fun ρ w' hρ hg => by simp [execOp, hρ, go_sem, (hg.cell (p := ⟨w6.heap.size, 0, none⟩) x10.out.lt).trans (x10.out.cell 0), (hg.cell (p := ⟨w6.heap.size, 1, none⟩) x10.out.lt).trans (x10.out.cell 1), (hg.cell (p := ⟨w6.heap.size, 2, none⟩) x10.out.lt).trans (x10.out.cell 2), (hg.cell (p := ⟨w6.heap.size, 3, none⟩) x10.out.lt).trans (x10.out.cell 3)]) ?_
      refine GW.call2 (eqv (.bool true)) rfl ⟨53, by kernel_rfl, by kernel_rfl, fun _ _ h => h⟩ rfl Tryd.func10 (by kernel_rfl) (by kernel_rfl) (eqv_lasts _) (kn (t := 54) (j := 12) (by kernel_rfl)) (kn (t := 55) (j := 13) (by kernel_rfl)) (fun v u w' hg hv hu => ?_) ?_
      · obtain rfl : v = _ := hv
        obtain rfl : u = _ := hu
        refine (is_same G2.1 w').mono ?_
        rintro e w9 ⟨rfl, hg9⟩
        exact ⟨_, rfl, rfl, hg9⟩
      refine GW.pick (b := true) rfl trivial rfl (kn (t := 53) (j := 11) (by kernel_rfl)) (kn (t := 56) (j := 14) (by kernel_rfl)) (eqv_lasts _) ?_
      refine GW.mv rfl trivial (.inl rfl) (kn (t := 57) (j := 15) (by kernel_rfl)) (eqv_lasts _) ?_
      refine GW.mv rfl ⟨58, by kernel_rfl, by kernel_rfl, fun _ _ h => h⟩ (.inl rfl) (kn0 (t := 9) (c := .int .i64 (G2.2 : Int)) (by kernel_rfl) rfl) (eqv_lasts _) ?_
      refine GW.mv rfl ⟨58, by kernel_rfl, by kernel_rfl, fun _ _ h => h⟩ (.inl rfl) (kn0 (t := 11) (c := .int .i64 (G2.2 : Int)) (by kernel_rfl) rfl) (eqv_lasts _) ?_
      refine GW.bin (.bool true) rfl ⟨58, by kernel_rfl, by kernel_rfl, fun _ _ h => h⟩ rfl (kn (t := 59) (j := 17) (by kernel_rfl)) (kn (t := 60) (j := 18) (by kernel_rfl)) (fun w' => by simp [go_sem]) ?_
      refine GW.pick (b := true) rfl trivial rfl (kn (t := 58) (j := 16) (by kernel_rfl)) (kn (t := 61) (j := 19) (by kernel_rfl)) (eqv_lasts _) ?_
      refine GW.mv rfl trivial (.inl rfl) (kn (t := 62) (j := 20) (by kernel_rfl)) (eqv_lasts _) ?_
      refine GW.mv rfl ⟨63, by kernel_rfl, by kernel_rfl, fun _ _ h => h⟩ (.inl rfl) (kn0 (t := 11) (c := .int .i64 (G2.2 : Int)) (by kernel_rfl) rfl) (eqv_lasts _) ?_
      refine GW.bin (.bool true) rfl ⟨63, by kernel_rfl, by kernel_rfl, fun _ _ h => h⟩ rfl (kn (t := 64) (j := 22) (by kernel_rfl)) knc (fun w' => by simp [go_sem, hcd]) ?_
      refine GW.mv rfl ⟨63, by kernel_rfl, by kernel_rfl, fun _ _ h => h⟩ (.inl rfl) (kn (t := 65) (j := 23) (by kernel_rfl)) (eqv_lasts _) ?_
      refine GW.skip rfl rfl (d := 66) (by kernel_rfl) (by kernel_rfl) (fun _ _ h => .inl h) ?_
      refine GW.skip rfl rfl (d := 66) (by kernel_rfl) (by kernel_rfl) (fun _ _ h => .inl h) ?_
      refine GW.skip rfl rfl (d := 66) (by kernel_rfl) (by kernel_rfl) (fun _ _ h => .inl h) ?_
      refine GW.skip rfl rfl (d := 66) (by kernel_rfl) (by kernel_rfl) (fun _ _ h => .inl h) ?_
      refine GW.skip rfl rfl (d := 66) (by kernel_rfl) (by kernel_rfl) (fun _ _ h => .inl h) ?_
      refine GW.skip rfl rfl (d := 66) (by kernel_rfl) (by kernel_rfl) (fun _ _ h => .inl h) ?_
      refine GW.pick (b := true) rfl ⟨63, by kernel_rfl, by kernel_rfl, fun _ _ h => h⟩ rfl (kn (t := 66) (j := 24) (by kernel_rfl)) (knc) (eqv_lasts _) ?_
      refine GW.pick (b := true) rfl trivial rfl (kn (t := 63) (j := 21) (by kernel_rfl)) (kn (t := 73) (j := 31) (by kernel_rfl)) (eqv_lasts _) ?_
      refine GW.mv rfl trivial (.inr rfl) (kn (t := 74) (j := 32) (by kernel_rfl)) (eqv_lasts _) ?_
      refine GW.done (by simp) (by kernel_rfl) (fun w' hg => ?_)
      intro v0 _ v1 _ v2 _ v3 _ v4 _ v5 _ v6 _ v7 _ v8 _ v9 _ v10 _ v11 _ v12 _ v13 _ v14 _ v15 _ v16 _ v17 _ v18 _ v19 _ v20 _ v21 _ v22 _ v23 _ v24 _ v25 _ v26 _ v27 _ v28 _ v29 _ v30 _ v31 _ v32 _ v33 h33
      obtain rfl : v33 = (Value.bool true) := h33
      simp only [GFin, Act.put, List.setIfInBounds_toArray, List.set_cons_succ, List.set_cons_zero]
      have G9 := Lib.hid (Gr.trans GG.out hg)
      go_wp2
      go_ret
      exact ⟨_, rfl, rfl, G9.out⟩
  · have h500' : (500 : Int) < (l.length : Int) := by omega
    have haw := Lib.hid (awake_any w hHw.out)
    clear hr
    go_enter Tryd.func3, Tryd.ntmps3
    go_wp2_with fail
    go_at_call 6
    refine haw.out.mono ?_
    rintro e w2 ⟨rfl, g2⟩
    replace g2 := Lib.hid g2
    go_wp2
    go_ret
    exact ⟨_, rfl, rfl, g2.out⟩
end Fm
end Go.Proofs.YtgkcbhijkcbjkaaDoor
