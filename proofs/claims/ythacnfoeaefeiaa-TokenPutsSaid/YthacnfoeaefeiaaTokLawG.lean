/- The walk of TokenGets. No condition. -/
import Derived.Test.YthacnfoeaefeiaaTokLawJ
import Derived.Test.YthacnfoeaefeiaaTokGetR
set_option linter.unusedVariables false
set_option linter.unusedSimpArgs false
namespace Go.Proofs.Ythacnfoeaefeiaa
open Go Go.RowKit W Vint
namespace Tk
theorem gets_len (l : List UInt8) : (gets l).1.length ≤ l.length + 1 := by have := getsF_len (l.length + 1) (l, 0) []; simpa [gets] using this
theorem gets_right (l : List UInt8) : ∀ t ∈ (gets l).1, right t = true := getsF_right _ _ _ (by simp)
theorem gets_fits (l : List UInt8) (h : l.length ≤ 1000) : Fits (gets l).1 := ⟨Nat.le_trans (gets_len l) (by omega), fun t ht => (right_fit (gets_right l t ht)).1⟩
set_option maxRecDepth 100000 in
set_option maxHeartbeats 4000000 in
theorem tokenGets_walk (A : Option Addr) (c : Nat) (l : List UInt8) (w : World) (hc : l.length ≤ c) (hm : c ≤ maxLen) (hr : RB w w.heap.size A l) :
    Calls Try.prog 5 #[.slice A l.length c] w (Ret (eqv (.bool true)) w) := by
  have hr0 := Lib.hid hr
  clear hr
  by_cases h500 : l.length ≤ 500
  · have h500' : ¬ (500 : Int) < (l.length : Int) := by omega
    obtain ⟨G, hG⟩ : ∃ G, G = gets l := ⟨_, rfl⟩
    have hcon := Lib.hid (getw_any A c l w (by omega) hr0.out)
    rw [← hG] at hcon
    have hG1 : G.1.length ≤ 1000000 := by rw [hG]; have := gets_len l; omega
    have hfG : Fits G.1 := by rw [hG]; exact gets_fits l (by omega)
    have hback : G.2 = 0 → putB G.1 = l := by rw [hG]; exact gets_back l
    have href := Lib.hid (fun w => refGetw_any l w (by omega))
    rw [← hG] at href
    replace hfG := Lib.hid hfG
    replace hback := Lib.hid hback
    clear hG
    go_enter Try.func5, Try.ntmps5
    go_wp2_with fail
    go_at_call 19
    refine hcon.out.mono ?_
    rintro e w3 ⟨A3, c3, rfl, o3, g3⟩
    have r3' := Lib.hid (OT.tr o3)
    have G3 := Lib.hid g3
    have hrb := Lib.hid ((hr0.out.below g3).more g3.size)
    clear hcon o3 g3
    go_wp2_with (first
      | (refine wpList_bytes_string rfl (.tmp 17) 40 9 5 rfl Try.underlying40 byteType.1 Try.underlying9 _ _ _ _ l rfl rfl hrb.out ?_))
    go_at_call 21
    refine (href.out _).mono ?_
    rintro e w5 ⟨A5, c5, rfl, o5, g5⟩
    have r5 := Lib.hid (OT.tr o5)
    have r3 := Lib.hid ((r3'.out.below g5).more g5.size)
    have G5 := Lib.hid (Gr.trans G3.out g5)
    clear href o5 g5 G3 r3' hrb
    go_wp2
    by_cases hcd : G.2 = 0
    · have hpb := hback.out hcd
      have hfG := hfG.out
      refine region_grow (by kernel_rfl) (by kernel_rfl) ?_
      refine GW.call0 (eqv (.bool true)) rfl trivial rfl Try.func7 (by kernel_rfl) (by kernel_rfl) (eqv_lasts _)  (fun w' hg => ?_) ?_
      · refine (awake_any w').mono ?_
        rintro e w9 ⟨rfl, hg9⟩
        exact ⟨_, rfl, rfl, hg9⟩
      refine GW.mv rfl trivial (.inl rfl) (kn (t := 22) (j := 0) (by kernel_rfl)) (eqv_lasts _) ?_
      refine GW.mv rfl ⟨23, by kernel_rfl, by kernel_rfl, fun _ _ h => h⟩ (.inl rfl) (kn0 (t := 3) (c := .slice A3 G.1.length c3) (by kernel_rfl) rfl) (eqv_lasts _) ?_
      refine GW.call1 (isR 3 (G.1).length (tcs (G.1))) rfl ⟨23, by kernel_rfl, by kernel_rfl, fun _ _ h => h⟩ rfl Try.func11 (by kernel_rfl) (by kernel_rfl) (isR_lasts _ _ _) (kn (t := 24) (j := 2) (by kernel_rfl)) (fun v w' hg hv => ?_) ?_
      · obtain rfl : v = _ := hv
        refine (from_any A3 c3 (G.1) w' ((r3.out.below hg).more hg.size) hG1).mono ?_
        rintro e w9 ⟨A9, c9, rfl, o9, hg9⟩
        exact ⟨_, rfl, ⟨A9, c9, rfl, OR.reads o9⟩, hg9⟩
      refine GW.mv rfl ⟨23, by kernel_rfl, by kernel_rfl, fun _ _ h => h⟩ (.inl rfl) (kn0 (t := 5) (c := .slice A5 G.1.length c5) (by kernel_rfl) rfl) (eqv_lasts _) ?_
      refine GW.call2 (eqv (.bool true)) rfl ⟨23, by kernel_rfl, by kernel_rfl, fun _ _ h => h⟩ rfl Try.func10 (by kernel_rfl) (by kernel_rfl) (eqv_lasts _) (kn (t := 25) (j := 3) (by kernel_rfl)) (kn (t := 26) (j := 4) (by kernel_rfl)) (fun v u w' hg hv hu => ?_) ?_
      · obtain ⟨A8, c8, rfl, r8⟩ := hv
        obtain rfl : u = _ := hu
        refine (refSame_any A8 c8 (G.1) A5 c5 (G.1) w' r8 ((r5.out.below hg).more hg.size) hG1).mono ?_
        rintro e w9 ⟨rfl, hg9⟩
        exact ⟨_, rfl, by rw [same_self]; rfl, hg9⟩
      refine GW.pick (b := true) rfl trivial rfl (kn (t := 23) (j := 1) (by kernel_rfl)) (kn (t := 27) (j := 5) (by kernel_rfl)) (eqv_lasts _) ?_
      refine GW.mv rfl trivial (.inl rfl) (kn (t := 28) (j := 6) (by kernel_rfl)) (eqv_lasts _) ?_
      refine GW.mv rfl ⟨29, by kernel_rfl, by kernel_rfl, fun _ _ h => h⟩ (.inl rfl) (kn0 (t := 4) (c := .int .i64 (G.2 : Int)) (by kernel_rfl) rfl) (eqv_lasts _) ?_
      refine GW.mv rfl ⟨29, by kernel_rfl, by kernel_rfl, fun _ _ h => h⟩ (.inl rfl) (kn0 (t := 6) (c := .int .i64 (G.2 : Int)) (by kernel_rfl) rfl) (eqv_lasts _) ?_
      refine GW.bin (.bool true) rfl ⟨29, by kernel_rfl, by kernel_rfl, fun _ _ h => h⟩ rfl (kn (t := 30) (j := 8) (by kernel_rfl)) (kn (t := 31) (j := 9) (by kernel_rfl)) (fun w' => by simp [go_sem]) ?_
      refine GW.pick (b := true) rfl trivial rfl (kn (t := 29) (j := 7) (by kernel_rfl)) (kn (t := 32) (j := 10) (by kernel_rfl)) (eqv_lasts _) ?_
      refine GW.mv rfl trivial (.inl rfl) (kn (t := 33) (j := 11) (by kernel_rfl)) (eqv_lasts _) ?_
      refine GW.mv rfl ⟨34, by kernel_rfl, by kernel_rfl, fun _ _ h => h⟩ (.inl rfl) (kn0 (t := 6) (c := .int .i64 (G.2 : Int)) (by kernel_rfl) rfl) (eqv_lasts _) ?_
      refine GW.bin (.bool false) rfl ⟨34, by kernel_rfl, by kernel_rfl, fun _ _ h => h⟩ rfl (kn (t := 35) (j := 13) (by kernel_rfl)) knc (fun w' => by simp [go_sem, hcd]) ?_
      refine GW.mv rfl ⟨34, by kernel_rfl, by kernel_rfl, fun _ _ h => h⟩ (.inl rfl) (kn (t := 36) (j := 14) (by kernel_rfl)) (eqv_lasts _) ?_
      refine GW.mv rfl ⟨37, by kernel_rfl, by kernel_rfl, fun _ _ h => h⟩ (.inl rfl) (kn0 (t := 3) (c := .slice A3 G.1.length c3) (by kernel_rfl) rfl) (eqv_lasts _) ?_
      refine GW.call1 (isB l) rfl ⟨37, by kernel_rfl, by kernel_rfl, fun _ _ h => h⟩ rfl Try.func18 (by kernel_rfl) (by kernel_rfl) (isB_lasts _) (kn (t := 38) (j := 16) (by kernel_rfl)) (fun v w' hg hv => ?_) ?_
      · obtain rfl : v = _ := hv
        refine (putw_any A3 c3 G.1 w' ((r3.out.below hg).more hg.size) hfG hG1).mono ?_
        rw [hpb]
        rintro e w9 ⟨A9, c9, rfl, o9, hg9⟩
        exact ⟨_, rfl, isB_of_own o9, hg9⟩
      refine GW.bs (l) rfl ⟨37, by kernel_rfl, by kernel_rfl, fun _ _ h => h⟩ rfl Try.underlying40 byteType.1 Try.underlying9 (kn (t := 39) (j := 17) (by kernel_rfl)) ?_
      refine GW.mv rfl ⟨37, by kernel_rfl, by kernel_rfl, fun _ _ h => h⟩ (.inl rfl) (kn0' (t := 0) (c := .slice A l.length c) (by kernel_rfl) rfl (isB_lasts _) (⟨A, c, rfl, hc, hm, (hr0.out.below G5.out).more (Below.size G5.out)⟩)) (isB_lasts _) ?_
      refine GW.bs (l) rfl ⟨37, by kernel_rfl, by kernel_rfl, fun _ _ h => h⟩ rfl Try.underlying40 byteType.1 Try.underlying9 (kn (t := 41) (j := 19) (by kernel_rfl)) ?_
      refine GW.bin (.bool true) rfl ⟨37, by kernel_rfl, by kernel_rfl, fun _ _ h => h⟩ rfl (kn (t := 40) (j := 18) (by kernel_rfl)) (kn (t := 42) (j := 20) (by kernel_rfl)) (fun w' => run_eql_str rfl _ _ _ w') ?_
      refine GW.pick (b := false) rfl ⟨34, by kernel_rfl, by kernel_rfl, fun _ _ h => h⟩ rfl (kn (t := 37) (j := 15) (by kernel_rfl)) (kn (t := 43) (j := 21) (by kernel_rfl)) (eqv_lasts _) ?_
      refine GW.pick (b := true) rfl trivial rfl (kn (t := 34) (j := 12) (by kernel_rfl)) (kn (t := 44) (j := 22) (by kernel_rfl)) (eqv_lasts _) ?_
      refine GW.mv rfl trivial (.inr rfl) (kn (t := 45) (j := 23) (by kernel_rfl)) (eqv_lasts _) ?_
      refine GW.done (by simp) (by kernel_rfl) (fun w' hg => ?_)
      intro v0 _ v1 _ v2 _ v3 _ v4 _ v5 _ v6 _ v7 _ v8 _ v9 _ v10 _ v11 _ v12 _ v13 _ v14 _ v15 _ v16 _ v17 _ v18 _ v19 _ v20 _ v21 _ v22 _ v23 _ v24 h24
      obtain rfl : v24 = (.bool true) := h24
      simp only [GFin, Act.put, List.setIfInBounds_toArray, List.set_cons_succ, List.set_cons_zero]
      have GG := Lib.hid (Gr.trans G5.out hg)
      clear hpb hfG
      go_wp2
      go_ret
      exact ⟨_, rfl, rfl, GG.out⟩
    · refine region_grow (by kernel_rfl) (by kernel_rfl) ?_
      refine GW.call0 (eqv (.bool true)) rfl trivial rfl Try.func7 (by kernel_rfl) (by kernel_rfl) (eqv_lasts _)  (fun w' hg => ?_) ?_
      · refine (awake_any w').mono ?_
        rintro e w9 ⟨rfl, hg9⟩
        exact ⟨_, rfl, rfl, hg9⟩
      refine GW.mv rfl trivial (.inl rfl) (kn (t := 22) (j := 0) (by kernel_rfl)) (eqv_lasts _) ?_
      refine GW.mv rfl ⟨23, by kernel_rfl, by kernel_rfl, fun _ _ h => h⟩ (.inl rfl) (kn0 (t := 3) (c := .slice A3 G.1.length c3) (by kernel_rfl) rfl) (eqv_lasts _) ?_
      refine GW.call1 (isR 3 (G.1).length (tcs (G.1))) rfl ⟨23, by kernel_rfl, by kernel_rfl, fun _ _ h => h⟩ rfl Try.func11 (by kernel_rfl) (by kernel_rfl) (isR_lasts _ _ _) (kn (t := 24) (j := 2) (by kernel_rfl)) (fun v w' hg hv => ?_) ?_
      · obtain rfl : v = _ := hv
        refine (from_any A3 c3 (G.1) w' ((r3.out.below hg).more hg.size) hG1).mono ?_
        rintro e w9 ⟨A9, c9, rfl, o9, hg9⟩
        exact ⟨_, rfl, ⟨A9, c9, rfl, OR.reads o9⟩, hg9⟩
      refine GW.mv rfl ⟨23, by kernel_rfl, by kernel_rfl, fun _ _ h => h⟩ (.inl rfl) (kn0 (t := 5) (c := .slice A5 G.1.length c5) (by kernel_rfl) rfl) (eqv_lasts _) ?_
      refine GW.call2 (eqv (.bool true)) rfl ⟨23, by kernel_rfl, by kernel_rfl, fun _ _ h => h⟩ rfl Try.func10 (by kernel_rfl) (by kernel_rfl) (eqv_lasts _) (kn (t := 25) (j := 3) (by kernel_rfl)) (kn (t := 26) (j := 4) (by kernel_rfl)) (fun v u w' hg hv hu => ?_) ?_
      · obtain ⟨A8, c8, rfl, r8⟩ := hv
        obtain rfl : u = _ := hu
        refine (refSame_any A8 c8 (G.1) A5 c5 (G.1) w' r8 ((r5.out.below hg).more hg.size) hG1).mono ?_
        rintro e w9 ⟨rfl, hg9⟩
        exact ⟨_, rfl, by rw [same_self]; rfl, hg9⟩
      refine GW.pick (b := true) rfl trivial rfl (kn (t := 23) (j := 1) (by kernel_rfl)) (kn (t := 27) (j := 5) (by kernel_rfl)) (eqv_lasts _) ?_
      refine GW.mv rfl trivial (.inl rfl) (kn (t := 28) (j := 6) (by kernel_rfl)) (eqv_lasts _) ?_
      refine GW.mv rfl ⟨29, by kernel_rfl, by kernel_rfl, fun _ _ h => h⟩ (.inl rfl) (kn0 (t := 4) (c := .int .i64 (G.2 : Int)) (by kernel_rfl) rfl) (eqv_lasts _) ?_
      refine GW.mv rfl ⟨29, by kernel_rfl, by kernel_rfl, fun _ _ h => h⟩ (.inl rfl) (kn0 (t := 6) (c := .int .i64 (G.2 : Int)) (by kernel_rfl) rfl) (eqv_lasts _) ?_
      refine GW.bin (.bool true) rfl ⟨29, by kernel_rfl, by kernel_rfl, fun _ _ h => h⟩ rfl (kn (t := 30) (j := 8) (by kernel_rfl)) (kn (t := 31) (j := 9) (by kernel_rfl)) (fun w' => by simp [go_sem]) ?_
      refine GW.pick (b := true) rfl trivial rfl (kn (t := 29) (j := 7) (by kernel_rfl)) (kn (t := 32) (j := 10) (by kernel_rfl)) (eqv_lasts _) ?_
      refine GW.mv rfl trivial (.inl rfl) (kn (t := 33) (j := 11) (by kernel_rfl)) (eqv_lasts _) ?_
      refine GW.mv rfl ⟨34, by kernel_rfl, by kernel_rfl, fun _ _ h => h⟩ (.inl rfl) (kn0 (t := 6) (c := .int .i64 (G.2 : Int)) (by kernel_rfl) rfl) (eqv_lasts _) ?_
      refine GW.bin (.bool true) rfl ⟨34, by kernel_rfl, by kernel_rfl, fun _ _ h => h⟩ rfl (kn (t := 35) (j := 13) (by kernel_rfl)) knc (fun w' => by simp [go_sem, hcd]) ?_
      refine GW.mv rfl ⟨34, by kernel_rfl, by kernel_rfl, fun _ _ h => h⟩ (.inl rfl) (kn (t := 36) (j := 14) (by kernel_rfl)) (eqv_lasts _) ?_
      refine GW.skip rfl rfl (d := 37) (by kernel_rfl) (by kernel_rfl) (fun _ _ h => .inl h) ?_
      refine GW.skip rfl rfl (d := 37) (by kernel_rfl) (by kernel_rfl) (fun _ _ h => .inl h) ?_
      refine GW.skip rfl rfl (d := 37) (by kernel_rfl) (by kernel_rfl) (fun _ _ h => .inl h) ?_
      refine GW.skip rfl rfl (d := 37) (by kernel_rfl) (by kernel_rfl) (fun _ _ h => .inl h) ?_
      refine GW.skip rfl rfl (d := 37) (by kernel_rfl) (by kernel_rfl) (fun _ _ h => .inl h) ?_
      refine GW.skip rfl rfl (d := 37) (by kernel_rfl) (by kernel_rfl) (fun _ _ h => .inl h) ?_
      refine GW.pick (b := true) rfl ⟨34, by kernel_rfl, by kernel_rfl, fun _ _ h => h⟩ rfl (kn (t := 37) (j := 15) (by kernel_rfl)) (knc) (eqv_lasts _) ?_
      refine GW.pick (b := true) rfl trivial rfl (kn (t := 34) (j := 12) (by kernel_rfl)) (kn (t := 44) (j := 22) (by kernel_rfl)) (eqv_lasts _) ?_
      refine GW.mv rfl trivial (.inr rfl) (kn (t := 45) (j := 23) (by kernel_rfl)) (eqv_lasts _) ?_
      refine GW.done (by simp) (by kernel_rfl) (fun w' hg => ?_)
      intro v0 _ v1 _ v2 _ v3 _ v4 _ v5 _ v6 _ v7 _ v8 _ v9 _ v10 _ v11 _ v12 _ v13 _ v14 _ v15 _ v16 _ v17 _ v18 _ v19 _ v20 _ v21 _ v22 _ v23 _ v24 h24
      obtain rfl : v24 = (Value.bool true) := h24
      simp only [GFin, Act.put, List.setIfInBounds_toArray, List.set_cons_succ, List.set_cons_zero]
      have GG := Lib.hid (Gr.trans G5.out hg)
      go_wp2
      go_ret
      exact ⟨_, rfl, rfl, GG.out⟩
  · have h500' : (500 : Int) < (l.length : Int) := by omega
    go_enter Try.func5, Try.ntmps5
    go_wp2_with fail
    go_at_call 7
    refine (awake_any _).mono ?_
    rintro e w2 ⟨rfl, g2⟩
    replace g2 := Lib.hid g2
    go_wp2
    go_ret
    exact ⟨_, rfl, rfl, g2.out⟩
end Tk
end Go.Proofs.Ythacnfoeaefeiaa
