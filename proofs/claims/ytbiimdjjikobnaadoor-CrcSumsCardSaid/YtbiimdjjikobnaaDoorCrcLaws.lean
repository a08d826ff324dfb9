/- The walks of the four laws over the sums of 32 bits: whatever the arguments, each returns true and writes nothing that was there. No condition. -/
import Derived.Test.YtbiimdjjikobnaaDoorCrcWalkD
import Derived.Test.YtbiimdjjikobnaaDoorCrcLaw
set_option linter.unusedVariables false
set_option linter.unusedSimpArgs false
namespace Go.Proofs.YtbiimdjjikobnaaDoor
open Go Go.RowKit W
namespace Crc

set_option maxHeartbeats 1000000 in
theorem crcSums_walk (A1 : Option Addr) (c1 : Nat) (l1 : List UInt8) (A2 : Option Addr) (c2 : Nat) (l2 : List UInt8) (st : UInt32) (w : World) (hc1 : l1.length ≤ c1) (hm1 : c1 ≤ maxLen) (hr1 : RB w w.heap.size A1 l1) (hc2 : l2.length ≤ c2) (hm2 : c2 ≤ maxLen) (hr2 : RB w w.heap.size A2 l2) (hH : Halves w) :
    Calls Tryd.prog 3 #[.slice A1 l1.length c1, .slice A2 l2.length c2, .int .u32 (n32 st)] w (Ret (eqv (.bool true)) w) := by
  unfold maxLen at hm1 hm2
  by_cases h1 : l1.length ≤ 300
  · by_cases h2 : l2.length ≤ 300
    · have hs := Lib.hid (refSum_any (l1 ++ l2) w (by simp; omega))
      obtain ⟨j0, hj0, hj2, hj1, _⟩ := info_parts (show (Tryd.prog.info? 22).map (fun i => (i.zero, i.size, i.bytes)) = some (some (.slice none 0 0), 1, 24) by kernel_rfl)
      have hr1' := Lib.hid hr1
      have hr2' := Lib.hid hr2
      clear hr1 hr2
      go_enter Tryd.func3, Tryd.ntmps3
      go_wp2_with (first
        | (refine wpList_bytes_string rfl (.tmp 18) 22 9 5 rfl Tryd.underlying22 byteType.1 Tryd.underlying9 _ _ _ _ l1 rfl rfl hr1'.out ?_)
        | (refine wpList_bytes_string rfl (.tmp 20) 22 9 5 rfl Tryd.underlying22 byteType.1 Tryd.underlying9 _ _ _ _ l2 rfl rfl hr2'.out ?_)
        | (go_at_call 8; refine hs.out.mono ?_; rintro e w' ⟨rfl, rfl⟩))
      have hr1 := hr1'.out
      have hr2 := hr2'.out
      refine region_grow (by kernel_rfl) (by kernel_rfl) ?_
      refine GW.call0 (eqv (.bool true)) rfl trivial rfl Tryd.func7 (by kernel_rfl) (by kernel_rfl) (eqv_lasts _)  (fun w' hg => ?_) ?_
      · exact awake_any w' (hH.gr hH.lt hg)
      refine GW.mv rfl trivial (.inl rfl) (kn (t := 25) (j := 0) (by kernel_rfl)) (eqv_lasts _) ?_
      refine GW.mv rfl ⟨26, by kernel_rfl, by kernel_rfl, fun _ _ h => h⟩ (.inl rfl) (kn0' (t := 0) (c := .slice A1 l1.length c1) (by kernel_rfl) rfl (isB_lasts l1) (⟨A1, c1, rfl, hc1, hm1, hr1⟩)) (isB_lasts l1) ?_
      refine GW.mv rfl ⟨26, by kernel_rfl, by kernel_rfl, fun _ _ h => h⟩ (.inl rfl) (kn0' (t := 1) (c := .slice A2 l2.length c2) (by kernel_rfl) rfl (isB_lasts l2) (⟨A2, c2, rfl, hc2, hm2, hr2⟩)) (isB_lasts l2) ?_
      refine GW.two (l1) (l2) rfl ⟨26, by kernel_rfl, by kernel_rfl, fun _ _ h => h⟩ rfl Tryd.underlying41 hj0 hj1 hj2 (kn (t := 27) (j := 2) (by kernel_rfl)) (kn (t := 28) (j := 3) (by kernel_rfl)) ?_
      refine GW.call1 (eqv (.int .u32 (n32 (sum (l1 ++ l2))))) rfl ⟨26, by kernel_rfl, by kernel_rfl, fun _ _ h => h⟩ rfl Tryd.func9 (by kernel_rfl) (by kernel_rfl) (eqv_lasts _) (kn (t := 29) (j := 4) (by kernel_rfl)) (fun v w' hg hv => ?_) ?_
      · refine (sum_any [l1, l2] v w' hv (by simp) (by intro x hx; simp at hx; first | (subst hx; simp; omega) | (rcases hx with rfl | rfl <;> omega)) (hH.gr hH.lt hg)).mono ?_
        rintro e w2 ⟨rfl, rfl⟩
        exact ⟨_, rfl, by simp [eqv], Gr.refl _⟩
      refine GW.mv rfl ⟨26, by kernel_rfl, by kernel_rfl, fun _ _ h => h⟩ (.inl rfl) (kn0 (t := 8) (c := .int .u32 (n32 (sum (l1 ++ l2)))) (by kernel_rfl) rfl) (eqv_lasts _) ?_
      refine GW.bin (.bool true) rfl ⟨26, by kernel_rfl, by kernel_rfl, fun _ _ h => h⟩ rfl (kn (t := 30) (j := 5) (by kernel_rfl)) (kn (t := 31) (j := 6) (by kernel_rfl)) (fun w' => run_eql_int rfl _ _ _ w') ?_
      refine GW.pick (b := true) rfl trivial rfl (kn (t := 26) (j := 1) (by kernel_rfl)) (kn (t := 32) (j := 7) (by kernel_rfl)) (eqv_lasts _) ?_
      refine GW.mv rfl trivial (.inl rfl) (kn (t := 33) (j := 8) (by kernel_rfl)) (eqv_lasts _) ?_
      refine GW.mv rfl ⟨34, by kernel_rfl, by kernel_rfl, fun _ _ h => h⟩ (.inl rfl) (kn0 (t := 7) (c := str (l1 ++ l2)) (by kernel_rfl) rfl) (eqv_lasts _) ?_
      refine GW.sb (l1 ++ l2) rfl ⟨34, by kernel_rfl, by kernel_rfl, fun _ _ h => h⟩ rfl Tryd.underlying9 Tryd.underlying22 byteType.1 (by simp; unfold maxLen; omega) (kn (t := 35) (j := 10) (by kernel_rfl)) ?_
      refine GW.one (l1 ++ l2) rfl ⟨34, by kernel_rfl, by kernel_rfl, fun _ _ h => h⟩ rfl Tryd.underlying41 hj0 hj1 hj2 (kn (t := 36) (j := 11) (by kernel_rfl)) ?_
      refine GW.call1 (eqv (.int .u32 (n32 (sum (l1 ++ l2))))) rfl ⟨34, by kernel_rfl, by kernel_rfl, fun _ _ h => h⟩ rfl Tryd.func9 (by kernel_rfl) (by kernel_rfl) (eqv_lasts _) (kn (t := 37) (j := 12) (by kernel_rfl)) (fun v w' hg hv => ?_) ?_
      · refine (sum_any [l1 ++ l2] v w' hv (by simp) (by intro x hx; simp at hx; first | (subst hx; simp; omega) | (rcases hx with rfl | rfl <;> omega)) (hH.gr hH.lt hg)).mono ?_
        rintro e w2 ⟨rfl, rfl⟩
        exact ⟨_, rfl, by simp [eqv], Gr.refl _⟩
      refine GW.mv rfl ⟨34, by kernel_rfl, by kernel_rfl, fun _ _ h => h⟩ (.inl rfl) (kn0 (t := 8) (c := .int .u32 (n32 (sum (l1 ++ l2)))) (by kernel_rfl) rfl) (eqv_lasts _) ?_
      refine GW.bin (.bool true) rfl ⟨34, by kernel_rfl, by kernel_rfl, fun _ _ h => h⟩ rfl (kn (t := 38) (j := 13) (by kernel_rfl)) (kn (t := 39) (j := 14) (by kernel_rfl)) (fun w' => run_eql_int rfl _ _ _ w') ?_
      refine GW.pick (b := true) rfl trivial rfl (kn (t := 34) (j := 9) (by kernel_rfl)) (kn (t := 40) (j := 15) (by kernel_rfl)) (eqv_lasts _) ?_
      refine GW.mv rfl trivial (.inl rfl) (kn (t := 41) (j := 16) (by kernel_rfl)) (eqv_lasts _) ?_
      refine GW.mv rfl ⟨42, by kernel_rfl, by kernel_rfl, fun _ _ h => h⟩ (.inl rfl) (kn0 (t := 2) (c := .int .u32 (n32 (st))) (by kernel_rfl) rfl) (eqv_lasts _) ?_
      refine GW.mv rfl ⟨42, by kernel_rfl, by kernel_rfl, fun _ _ h => h⟩ (.inl rfl) (kn0' (t := 0) (c := .slice A1 l1.length c1) (by kernel_rfl) rfl (isB_lasts l1) (⟨A1, c1, rfl, hc1, hm1, hr1⟩)) (isB_lasts l1) ?_
      refine GW.call2 (eqv (.int .u32 (n32 (more st l1)))) rfl ⟨42, by kernel_rfl, by kernel_rfl, fun _ _ h => h⟩ rfl Tryd.func10 (by kernel_rfl) (by kernel_rfl) (eqv_lasts _) (kn (t := 43) (j := 18) (by kernel_rfl)) (kn (t := 44) (j := 19) (by kernel_rfl)) (fun v u w' hg hv hu => ?_) ?_
      · obtain rfl : v = _ := hv
        obtain ⟨A, c, rfl, _, _, hr⟩ := hu
        refine (more_any st A c _ l1 w' (by omega) hr (hH.gr hH.lt hg)).mono ?_
        rintro e w2 ⟨rfl, rfl⟩
        exact ⟨_, rfl, rfl, Gr.refl _⟩
      refine GW.mv rfl ⟨42, by kernel_rfl, by kernel_rfl, fun _ _ h => h⟩ (.inl rfl) (kn0 (t := 2) (c := .int .u32 (n32 (st))) (by kernel_rfl) rfl) (eqv_lasts _) ?_
      refine GW.mv rfl ⟨42, by kernel_rfl, by kernel_rfl, fun _ _ h => h⟩ (.inl rfl) (kn0' (t := 0) (c := .slice A1 l1.length c1) (by kernel_rfl) rfl (isB_lasts l1) (⟨A1, c1, rfl, hc1, hm1, hr1⟩)) (isB_lasts l1) ?_
      refine GW.bs (l1) rfl ⟨42, by kernel_rfl, by kernel_rfl, fun _ _ h => h⟩ rfl Tryd.underlying22 byteType.1 Tryd.underlying9 (kn (t := 47) (j := 22) (by kernel_rfl)) ?_
      refine GW.call2 (eqv (.int .u32 (n32 (more st l1)))) rfl ⟨42, by kernel_rfl, by kernel_rfl, fun _ _ h => h⟩ rfl Tryd.func11 (by kernel_rfl) (by kernel_rfl) (eqv_lasts _) (kn (t := 46) (j := 21) (by kernel_rfl)) (kn (t := 48) (j := 23) (by kernel_rfl)) (fun v u w' hg hv hu => ?_) ?_
      · obtain rfl : v = _ := hv
        obtain rfl : u = _ := hu
        refine (refMore_any st l1 w' (by omega)).mono ?_
        rintro e w2 ⟨rfl, rfl⟩
        exact ⟨_, rfl, rfl, Gr.refl _⟩
      refine GW.bin (.bool true) rfl ⟨42, by kernel_rfl, by kernel_rfl, fun _ _ h => h⟩ rfl (kn (t := 45) (j := 20) (by kernel_rfl)) (kn (t := 49) (j := 24) (by kernel_rfl)) (fun w' => run_eql_int rfl _ _ _ w') ?_
      refine GW.pick (b := true) rfl trivial rfl (kn (t := 42) (j := 17) (by kernel_rfl)) (kn (t := 50) (j := 25) (by kernel_rfl)) (eqv_lasts _) ?_
      refine GW.mv rfl trivial (.inr rfl) (kn (t := 51) (j := 26) (by kernel_rfl)) (eqv_lasts _) ?_
      refine GW.done (by simp) (fun w' hg => ?_)
      intro v0 _ v1 _ v2 _ v3 _ v4 _ v5 _ v6 _ v7 _ v8 _ v9 _ v10 _ v11 _ v12 _ v13 _ v14 _ v15 _ v16 _ v17 _ v18 _ v19 _ v20 _ v21 _ v22 _ v23 _ v24 _ v25 _ v26 _ v27 h27
      obtain rfl : v27 = (.bool true) := h27
      simp only [GFin, Act.put, List.setIfInBounds_toArray, List.set_cons_succ, List.set_cons_zero]
      go_wp2
      go_ret
      exact ⟨_, rfl, rfl, hg⟩
    · have h2' : 300 < l2.length := by omega
      have haw := Lib.hid (awake_any w hH)
      clear hH hr1 hr2 hm1 hm2 hc1 hc2 h2
      go_enter Tryd.func3, Tryd.ntmps3
      go_wp2_with (go_at_call 7; refine haw.out.mono ?_; rintro e w' ⟨v, rfl, hv, hg⟩; obtain rfl : v = .bool true := hv)
      go_ret
      exact ⟨_, rfl, rfl, hg⟩
  · have h1' : 300 < l1.length := by omega
    have haw := Lib.hid (awake_any w hH)
    clear hH hr1 hr2 hm1 hm2 hc1 hc2 h1
    go_enter Tryd.func3, Tryd.ntmps3
    go_wp2_with (go_at_call 7; refine haw.out.mono ?_; rintro e w' ⟨v, rfl, hv, hg⟩; obtain rfl : v = .bool true := hv)
    go_ret
    exact ⟨_, rfl, rfl, hg⟩

set_option maxHeartbeats 1000000 in
theorem crcSeals_walk (A1 : Option Addr) (c1 : Nat) (l1 : List UInt8) (A2 : Option Addr) (c2 : Nat) (l2 : List UInt8) (w : World) (hc1 : l1.length ≤ c1) (hm1 : c1 ≤ maxLen) (hr1 : RB w w.heap.size A1 l1) (hc2 : l2.length ≤ c2) (hm2 : c2 ≤ maxLen) (hr2 : RB w w.heap.size A2 l2) (hH : Halves w) :
    Calls Tryd.prog 4 #[.slice A1 l1.length c1, .slice A2 l2.length c2] w (Ret (eqv (.bool true)) w) := by
  have hm1' := hm1
  have hm2' := hm2
  unfold maxLen at hm1' hm2'
  by_cases h1 : l1.length ≤ 300
  · by_cases h2 : l2.length ≤ 300
    · have hr1' := Lib.hid hr1
      have hr2' := Lib.hid hr2
      have hH' := Lib.hid hH
      clear hr1 hr2 hH
      go_enter Tryd.func4, Tryd.ntmps4
      go_wp2_with fail
      refine (seal_any A1 c1 l1 w (by omega) hc1 hm1 hr1'.out hH'.out).mono ?_
      rintro e w1 ⟨v1, rfl, ho1', hg1'⟩
      obtain ⟨A3, c3, rfl, hc3', hm3'⟩ := ho1'.shape
      have ho1 := Lib.hid ho1'
      have hg1 := Lib.hid hg1'
      have hc3 := Lib.hid hc3'
      have hm3 := Lib.hid hm3'
      clear ho1' hg1' hc3' hm3'
      go_wp2_with fail
      refine (open_any A3 c3 (sealed l1) w1 (by rw [sealed_length]; omega) hc3.out hm3.out ho1.out.rb (hH'.out.gr hH'.out.lt hg1.out)).mono ?_
      rintro e w2 ⟨v2, rfl, ho2', hg2'⟩
      have ho2 := Lib.hid ho2'
      have hg2 := Lib.hid hg2'
      clear ho2' hg2'
      go_wp2_with fail
      refine (open_any A2 c2 l2 w2 (by omega) hc2 hm2 ((hr2'.out.below (Gr.trans hg1.out hg2.out)).more (Gr.trans hg1.out hg2.out).size) (hH'.out.gr hH'.out.lt (Gr.trans hg1.out hg2.out))).mono ?_
      rintro e w3 ⟨v3, rfl, ho3', hg3'⟩
      have ho3 := Lib.hid ho3'
      have hg3 := Lib.hid hg3'
      clear ho3' hg3'
      have hg123 : Below w.heap.size w w3 := Gr.trans hg1.out (Gr.trans hg2.out hg3.out)
      have hr3 := Lib.hid (hr2'.out.below hg123)
      clear hg123
      go_wp2_with (first
        | (refine wpList_bytes_string rfl (.tmp 34) 22 9 5 rfl Tryd.underlying22 byteType.1 Tryd.underlying9 _ _ _ _ (l2) rfl rfl hr3.out ?_)
        | fail)
      refine (refOpen_any l2 w3 (by omega)).mono ?_
      rintro e w4 ⟨rfl, hg4'⟩
      have hg4 := Lib.hid hg4'
      clear hg4'
      go_wp2
      replace hg1 : Gr w w1 := hg1.out
      replace hg2 : Gr w1 w2 := hg2.out
      replace hg3 : Gr w2 w3 := hg3.out
      replace hg4 : Gr w3 w4 := hg4.out
      replace ho1 := ho1.out
      replace ho2 := ho2.out
      replace ho3 := ho3.out
      have hr1 := hr1'.out
      have hH := hH'.out
      refine region_grow (by kernel_rfl) (by kernel_rfl) ?_
      refine GW.call0 (eqv (.bool true)) rfl trivial rfl Tryd.func7 (by kernel_rfl) (by kernel_rfl) (eqv_lasts _)  (fun w' hg => ?_) ?_
      · exact awake_any w' (hH.gr hH.lt ((hg1.trans (hg2.trans (hg3.trans hg4))).trans hg))
      refine GW.mv rfl trivial (.inl rfl) (kn (t := 39) (j := 0) (by kernel_rfl)) (eqv_lasts _) ?_
      refine GW.mv rfl ⟨40, by kernel_rfl, by kernel_rfl, fun _ _ h => h⟩ (.inl rfl) (kn0' (t := 5) (c := .slice A3 (sealed l1).length c3) (by kernel_rfl) rfl (isB_lasts _) (isB_lasts _ _ _ _ (hg2.trans (hg3.trans hg4)) (isB_of_own ho1))) (isB_lasts _) ?_
      refine GW.bs (sealed l1) rfl ⟨40, by kernel_rfl, by kernel_rfl, fun _ _ h => h⟩ rfl Tryd.underlying22 byteType.1 Tryd.underlying9 (kn (t := 41) (j := 2) (by kernel_rfl)) ?_
      refine GW.mv rfl ⟨40, by kernel_rfl, by kernel_rfl, fun _ _ h => h⟩ (.inl rfl) (kn0' (t := 0) (c := .slice A1 l1.length c1) (by kernel_rfl) rfl (isB_lasts l1) (⟨A1, c1, rfl, hc1, hm1, (hr1.below (hg1.trans (hg2.trans (hg3.trans hg4)))).more (hg1.trans (hg2.trans (hg3.trans hg4))).size⟩)) (isB_lasts l1) ?_
      refine GW.bs (l1) rfl ⟨40, by kernel_rfl, by kernel_rfl, fun _ _ h => h⟩ rfl Tryd.underlying22 byteType.1 Tryd.underlying9 (kn (t := 43) (j := 4) (by kernel_rfl)) ?_
      refine GW.call1 (eqv (str (sealed l1))) rfl ⟨40, by kernel_rfl, by kernel_rfl, fun _ _ h => h⟩ rfl Tryd.func15 (by kernel_rfl) (by kernel_rfl) (eqv_lasts _) (kn (t := 44) (j := 5) (by kernel_rfl)) (fun v w' hg hv => ?_) ?_
      · obtain rfl : v = _ := hv
        refine (refSeal_any l1 w' (by omega)).mono ?_
        rintro e w2 ⟨rfl, hb⟩
        exact ⟨_, rfl, rfl, hb⟩
      refine GW.bin (.bool true) rfl ⟨40, by kernel_rfl, by kernel_rfl, fun _ _ h => h⟩ rfl (kn (t := 42) (j := 3) (by kernel_rfl)) (kn (t := 45) (j := 6) (by kernel_rfl)) (fun w' => run_eql_str rfl _ _ _ w') ?_
      refine GW.pick (b := true) rfl trivial rfl (kn (t := 40) (j := 1) (by kernel_rfl)) (kn (t := 46) (j := 7) (by kernel_rfl)) (eqv_lasts _) ?_
      refine GW.mv rfl trivial (.inl rfl) (kn (t := 47) (j := 8) (by kernel_rfl)) (eqv_lasts _) ?_
      refine GW.mv rfl ⟨48, by kernel_rfl, by kernel_rfl, fun _ _ h => h⟩ (.inl rfl) (kn0' (t := 6) (c := v2) (by kernel_rfl) rfl (isB_lasts _) (isB_lasts _ _ _ _ (hg3.trans hg4) (isB_of_own ho2))) (isB_lasts _) ?_
      refine GW.bs ((opened (sealed l1)).1) rfl ⟨48, by kernel_rfl, by kernel_rfl, fun _ _ h => h⟩ rfl Tryd.underlying22 byteType.1 Tryd.underlying9 (kn (t := 49) (j := 10) (by kernel_rfl)) ?_
      refine GW.mv rfl ⟨48, by kernel_rfl, by kernel_rfl, fun _ _ h => h⟩ (.inl rfl) (kn0' (t := 0) (c := .slice A1 l1.length c1) (by kernel_rfl) rfl (isB_lasts l1) (⟨A1, c1, rfl, hc1, hm1, (hr1.below (hg1.trans (hg2.trans (hg3.trans hg4)))).more (hg1.trans (hg2.trans (hg3.trans hg4))).size⟩)) (isB_lasts l1) ?_
      refine GW.bs (l1) rfl ⟨48, by kernel_rfl, by kernel_rfl, fun _ _ h => h⟩ rfl Tryd.underlying22 byteType.1 Tryd.underlying9 (kn (t := 51) (j := 12) (by kernel_rfl)) ?_
      refine GW.bin (.bool true) rfl ⟨48, by kernel_rfl, by kernel_rfl, fun _ _ h => h⟩ rfl (kn (t := 50) (j := 11) (by kernel_rfl)) (kn (t := 52) (j := 13) (by kernel_rfl)) (fun w' => run_eql_str (by rw [opened_sealed]) _ _ _ w') ?_
      refine GW.pick (b := true) rfl trivial rfl (kn (t := 48) (j := 9) (by kernel_rfl)) (kn (t := 53) (j := 14) (by kernel_rfl)) (eqv_lasts _) ?_
      refine GW.mv rfl trivial (.inl rfl) (kn (t := 54) (j := 15) (by kernel_rfl)) (eqv_lasts _) ?_
      refine GW.mv rfl ⟨55, by kernel_rfl, by kernel_rfl, fun _ _ h => h⟩ (.inl rfl) (kn0 (t := 7) (c := .int .i64 ((opened (sealed l1)).2 : Int)) (by kernel_rfl) rfl) (eqv_lasts _) ?_
      refine GW.bin (.bool true) rfl ⟨55, by kernel_rfl, by kernel_rfl, fun _ _ h => h⟩ rfl (kn (t := 56) (j := 17) (by kernel_rfl)) knc (fun w' => run_eql_int (by rw [opened_sealed]; rfl) _ _ _ w') ?_
      refine GW.pick (b := true) rfl trivial rfl (kn (t := 55) (j := 16) (by kernel_rfl)) (kn (t := 57) (j := 18) (by kernel_rfl)) (eqv_lasts _) ?_
      refine GW.mv rfl trivial (.inl rfl) (kn (t := 58) (j := 19) (by kernel_rfl)) (eqv_lasts _) ?_
      refine GW.mv rfl ⟨59, by kernel_rfl, by kernel_rfl, fun _ _ h => h⟩ (.inl rfl) (kn0' (t := 8) (c := v3) (by kernel_rfl) rfl (isB_lasts _) (isB_lasts _ _ _ _ hg4 (isB_of_own ho3))) (isB_lasts _) ?_
      refine GW.bs ((opened l2).1) rfl ⟨59, by kernel_rfl, by kernel_rfl, fun _ _ h => h⟩ rfl Tryd.underlying22 byteType.1 Tryd.underlying9 (kn (t := 60) (j := 21) (by kernel_rfl)) ?_
      refine GW.mv rfl ⟨59, by kernel_rfl, by kernel_rfl, fun _ _ h => h⟩ (.inl rfl) (kn0 (t := 10) (c := str (opened l2).1) (by kernel_rfl) rfl) (eqv_lasts _) ?_
      refine GW.bin (.bool true) rfl ⟨59, by kernel_rfl, by kernel_rfl, fun _ _ h => h⟩ rfl (kn (t := 61) (j := 22) (by kernel_rfl)) (kn (t := 62) (j := 23) (by kernel_rfl)) (fun w' => run_eql_str rfl _ _ _ w') ?_
      refine GW.pick (b := true) rfl trivial rfl (kn (t := 59) (j := 20) (by kernel_rfl)) (kn (t := 63) (j := 24) (by kernel_rfl)) (eqv_lasts _) ?_
      refine GW.mv rfl trivial (.inl rfl) (kn (t := 64) (j := 25) (by kernel_rfl)) (eqv_lasts _) ?_
      refine GW.mv rfl ⟨65, by kernel_rfl, by kernel_rfl, fun _ _ h => h⟩ (.inl rfl) (kn0 (t := 9) (c := .int .i64 ((opened l2).2 : Int)) (by kernel_rfl) rfl) (eqv_lasts _) ?_
      refine GW.mv rfl ⟨65, by kernel_rfl, by kernel_rfl, fun _ _ h => h⟩ (.inl rfl) (kn0 (t := 11) (c := .int .i64 ((opened l2).2 : Int)) (by kernel_rfl) rfl) (eqv_lasts _) ?_
      refine GW.bin (.bool true) rfl ⟨65, by kernel_rfl, by kernel_rfl, fun _ _ h => h⟩ rfl (kn (t := 66) (j := 27) (by kernel_rfl)) (kn (t := 67) (j := 28) (by kernel_rfl)) (fun w' => run_eql_int rfl _ _ _ w') ?_
      refine GW.pick (b := true) rfl trivial rfl (kn (t := 65) (j := 26) (by kernel_rfl)) (kn (t := 68) (j := 29) (by kernel_rfl)) (eqv_lasts _) ?_
      refine GW.mv rfl trivial (.inr rfl) (kn (t := 69) (j := 30) (by kernel_rfl)) (eqv_lasts _) ?_
      refine GW.done (by simp) (fun w' hg => ?_)
      intro v0 _ v1 _ v2 _ v3 _ v4 _ v5 _ v6 _ v7 _ v8 _ v9 _ v10 _ v11 _ v12 _ v13 _ v14 _ v15 _ v16 _ v17 _ v18 _ v19 _ v20 _ v21 _ v22 _ v23 _ v24 _ v25 _ v26 _ v27 _ v28 _ v29 _ v30 _ v31 h31
      obtain rfl : v31 = (.bool true) := h31
      simp only [GFin, Act.put, List.setIfInBounds_toArray, List.set_cons_succ, List.set_cons_zero]
      have hgf : Gr w w' := (hg1.trans (hg2.trans (hg3.trans hg4))).trans hg
      clear hg1 hg2 hg3 hg4 hg ho1 ho2 ho3 hr1 hH
      go_wp2
      go_ret
      exact ⟨_, rfl, rfl, hgf⟩
    · have h2' : 300 < l2.length := by omega
      have haw := Lib.hid (awake_any w hH)
      clear hH hr1 hr2 hm1 hm2 hc1 hc2 h2
      go_enter Tryd.func4, Tryd.ntmps4
      go_wp2_with (go_at_call 7; refine haw.out.mono ?_; rintro e w' ⟨v, rfl, hv, hg⟩; obtain rfl : v = .bool true := hv)
      go_ret
      exact ⟨_, rfl, rfl, hg⟩
  · have h1' : 300 < l1.length := by omega
    have haw := Lib.hid (awake_any w hH)
    clear hH hr1 hr2 hm1 hm2 hc1 hc2 h1
    go_enter Tryd.func4, Tryd.ntmps4
    go_wp2_with (go_at_call 7; refine haw.out.mono ?_; rintro e w' ⟨v, rfl, hv, hg⟩; obtain rfl : v = .bool true := hv)
    go_ret
    exact ⟨_, rfl, rfl, hg⟩

set_option maxHeartbeats 1000000 in
theorem crcTurns_walk (A1 : Option Addr) (c1 : Nat) (l1 : List UInt8) (a : Int) (m : UInt32) (w : World) (hc1 : l1.length ≤ c1) (hm1 : c1 ≤ maxLen) (hr1 : RB w w.heap.size A1 l1) (ha1 : -9223372036854775808 ≤ a) (ha2 : a ≤ 9223372036854775807) (hH : Halves w) :
    Calls Tryd.prog 5 #[.slice A1 l1.length c1, .int .i64 a, .int .u32 (n32 m)] w (Ret (eqv (.bool true)) w) := by
  have hm1' := hm1
  unfold maxLen at hm1'
  by_cases h1 : l1.length ≤ 300
  · have hr1' := Lib.hid hr1
    have hH' := Lib.hid hH
    clear hr1 hH
    go_enter Tryd.func5, Tryd.ntmps5
    go_wp2_with fail
    refine (turn_any A1 c1 l1 a m w (by omega) hc1 hm1 ha1 ha2 hr1'.out).mono ?_
    rintro e w1 ⟨v1, rfl, ho1', hg1'⟩
    have ho1h := Lib.hid ho1'
    have hg1h := Lib.hid hg1'
    clear ho1' hg1'
    go_wp2
    have hg1 : Gr w w1 := hg1h.out
    have ho1 := ho1h.out
    have hr1 := hr1'.out
    have hH := hH'.out
    refine region_grow (by kernel_rfl) (by kernel_rfl) ?_
    refine GW.call0 (eqv (.bool true)) rfl trivial rfl Tryd.func7 (by kernel_rfl) (by kernel_rfl) (eqv_lasts _)  (fun w' hg => ?_) ?_
    · exact awake_any w' (hH.gr hH.lt (hg1.trans hg))
    refine GW.mv rfl trivial (.inl rfl) (kn (t := 16) (j := 0) (by kernel_rfl)) (eqv_lasts _) ?_
    refine GW.mv rfl ⟨17, by kernel_rfl, by kernel_rfl, fun _ _ h => h⟩ (.inl rfl) (kn0' (t := 7) (c := v1) (by kernel_rfl) rfl (isB_lasts _) (isB_of_own ho1)) (isB_lasts _) ?_
    refine GW.bs (turned l1 a m) rfl ⟨17, by kernel_rfl, by kernel_rfl, fun _ _ h => h⟩ rfl Tryd.underlying22 byteType.1 Tryd.underlying9 (kn (t := 18) (j := 2) (by kernel_rfl)) ?_
    refine GW.mv rfl ⟨17, by kernel_rfl, by kernel_rfl, fun _ _ h => h⟩ (.inl rfl) (kn0' (t := 0) (c := .slice A1 l1.length c1) (by kernel_rfl) rfl (isB_lasts l1) (⟨A1, c1, rfl, hc1, hm1, (hr1.below hg1).more hg1.size⟩)) (isB_lasts l1) ?_
    refine GW.bs (l1) rfl ⟨17, by kernel_rfl, by kernel_rfl, fun _ _ h => h⟩ rfl Tryd.underlying22 byteType.1 Tryd.underlying9 (kn (t := 20) (j := 4) (by kernel_rfl)) ?_
    refine GW.mv rfl ⟨17, by kernel_rfl, by kernel_rfl, fun _ _ h => h⟩ (.inl rfl) (kn0 (t := 1) (c := .int .i64 a) (by kernel_rfl) rfl) (eqv_lasts _) ?_
    refine GW.mv rfl ⟨17, by kernel_rfl, by kernel_rfl, fun _ _ h => h⟩ (.inl rfl) (kn0 (t := 2) (c := .int .u32 (n32 (m))) (by kernel_rfl) rfl) (eqv_lasts _) ?_
    refine GW.call3 (eqv (str (turned l1 a m))) rfl ⟨17, by kernel_rfl, by kernel_rfl, fun _ _ h => h⟩ rfl Tryd.func17 (by kernel_rfl) (by kernel_rfl) (eqv_lasts _) (kn (t := 21) (j := 5) (by kernel_rfl)) (kn (t := 22) (j := 6) (by kernel_rfl)) (kn (t := 23) (j := 7) (by kernel_rfl)) (fun v u s w' hg hv hu hs' => ?_) ?_
    · obtain rfl : v = _ := hv
      obtain rfl : u = _ := hu
      obtain rfl : s = _ := hs'
      refine (refTurn_any l1 a m w' (by omega) ha1 ha2).mono ?_
      rintro e w2 ⟨rfl, hb⟩
      exact ⟨_, rfl, rfl, hb⟩
    refine GW.bin (.bool true) rfl ⟨17, by kernel_rfl, by kernel_rfl, fun _ _ h => h⟩ rfl (kn (t := 19) (j := 3) (by kernel_rfl)) (kn (t := 24) (j := 8) (by kernel_rfl)) (fun w' => run_eql_str rfl _ _ _ w') ?_
    refine GW.pick (b := true) rfl trivial rfl (kn (t := 17) (j := 1) (by kernel_rfl)) (kn (t := 25) (j := 9) (by kernel_rfl)) (eqv_lasts _) ?_
    refine GW.mv rfl trivial (.inl rfl) (kn (t := 26) (j := 10) (by kernel_rfl)) (eqv_lasts _) ?_
    refine GW.mv rfl ⟨27, by kernel_rfl, by kernel_rfl, fun _ _ h => h⟩ (.inl rfl) (kn0' (t := 7) (c := v1) (by kernel_rfl) rfl (isB_lasts _) (isB_of_own ho1)) (isB_lasts _) ?_
    refine GW.mv rfl ⟨27, by kernel_rfl, by kernel_rfl, fun _ _ h => h⟩ (.inl rfl) (kn0 (t := 1) (c := .int .i64 a) (by kernel_rfl) rfl) (eqv_lasts _) ?_
    refine GW.mv rfl ⟨27, by kernel_rfl, by kernel_rfl, fun _ _ h => h⟩ (.inl rfl) (kn0 (t := 2) (c := .int .u32 (n32 (m))) (by kernel_rfl) rfl) (eqv_lasts _) ?_
    refine GW.call3 (isB (turned (turned l1 a m) a m)) rfl ⟨27, by kernel_rfl, by kernel_rfl, fun _ _ h => h⟩ rfl Tryd.func16 (by kernel_rfl) (by kernel_rfl) (isB_lasts _) (kn (t := 28) (j := 12) (by kernel_rfl)) (kn (t := 29) (j := 13) (by kernel_rfl)) (kn (t := 30) (j := 14) (by kernel_rfl)) (fun v u s w' hg hv hu hs' => ?_) ?_
    · obtain ⟨A, c, rfl, hc, hm, hr⟩ := hv
      obtain rfl : u = _ := hu
      obtain rfl : s = _ := hs'
      refine (turn_any A c _ a m w' (by rw [turned_length]; omega) hc hm ha1 ha2 hr).mono ?_
      rintro e w2 ⟨v2, rfl, ho, hb⟩
      exact ⟨_, rfl, isB_of_own ho, hb⟩
    refine GW.bs (turned (turned l1 a m) a m) rfl ⟨27, by kernel_rfl, by kernel_rfl, fun _ _ h => h⟩ rfl Tryd.underlying22 byteType.1 Tryd.underlying9 (kn (t := 31) (j := 15) (by kernel_rfl)) ?_
    refine GW.mv rfl ⟨27, by kernel_rfl, by kernel_rfl, fun _ _ h => h⟩ (.inl rfl) (kn0' (t := 0) (c := .slice A1 l1.length c1) (by kernel_rfl) rfl (isB_lasts l1) (⟨A1, c1, rfl, hc1, hm1, (hr1.below hg1).more hg1.size⟩)) (isB_lasts l1) ?_
    refine GW.bs (l1) rfl ⟨27, by kernel_rfl, by kernel_rfl, fun _ _ h => h⟩ rfl Tryd.underlying22 byteType.1 Tryd.underlying9 (kn (t := 33) (j := 17) (by kernel_rfl)) ?_
    refine GW.bin (.bool true) rfl ⟨27, by kernel_rfl, by kernel_rfl, fun _ _ h => h⟩ rfl (kn (t := 32) (j := 16) (by kernel_rfl)) (kn (t := 34) (j := 18) (by kernel_rfl)) (fun w' => run_eql_str (turned_twice l1 a m) _ _ _ w') ?_
    refine GW.pick (b := true) rfl trivial rfl (kn (t := 27) (j := 11) (by kernel_rfl)) (kn (t := 35) (j := 19) (by kernel_rfl)) (eqv_lasts _) ?_
    refine GW.mv rfl trivial (.inr rfl) (kn (t := 36) (j := 20) (by kernel_rfl)) (eqv_lasts _) ?_
    refine GW.done (by simp) (fun w' hg => ?_)
    intro v0 _ v1 _ v2 _ v3 _ v4 _ v5 _ v6 _ v7 _ v8 _ v9 _ v10 _ v11 _ v12 _ v13 _ v14 _ v15 _ v16 _ v17 _ v18 _ v19 _ v20 _ v21 h21
    obtain rfl : v21 = (.bool true) := h21
    simp only [GFin, Act.put, List.setIfInBounds_toArray, List.set_cons_succ, List.set_cons_zero]
    have hgf : Gr w w' := hg1.trans hg
    clear hg1 hg ho1 hr1 hH
    go_wp2
    go_ret
    exact ⟨_, rfl, rfl, hgf⟩
  · have h1' : 300 < l1.length := by omega
    have haw := Lib.hid (awake_any w hH)
    clear hH hr1 hm1 hc1 h1
    go_enter Tryd.func5, Tryd.ntmps5
    go_wp2_with (go_at_call 7; refine haw.out.mono ?_; rintro e w' ⟨v, rfl, hv, hg⟩; obtain rfl : v = .bool true := hv)
    go_ret
    exact ⟨_, rfl, rfl, hg⟩

set_option maxHeartbeats 1000000 in
theorem crcFinds_walk (A1 : Option Addr) (c1 : Nat) (l1 : List UInt8) (a : Int) (m : UInt32) (w : World) (hc1 : l1.length ≤ c1) (hm1 : c1 ≤ maxLen) (hr1 : RB w w.heap.size A1 l1) (ha1 : -9223372036854775808 ≤ a) (ha2 : a ≤ 9223372036854775807) (hH : Halves w) :
    Calls Tryd.prog 6 #[.slice A1 l1.length c1, .int .i64 a, .int .u32 (n32 m)] w (Ret (eqv (.bool true)) w) := by
  have hm1' := hm1
  unfold maxLen at hm1'
  by_cases h1 : l1.length ≤ 300
  · have hr1' := Lib.hid hr1
    have hH' := Lib.hid hH
    clear hr1 hH
    go_enter Tryd.func6, Tryd.ntmps6
    go_wp2_with fail
    refine (seal_any A1 c1 l1 w (by omega) hc1 hm1 hr1'.out hH'.out).mono ?_
    rintro e w1 ⟨v1, rfl, ho1', hg1'⟩
    obtain ⟨A3, c3, rfl, hc3', hm3'⟩ := ho1'.shape
    have ho1 := Lib.hid ho1'
    have hg1 := Lib.hid hg1'
    have hc3 := Lib.hid hc3'
    have hm3 := Lib.hid hm3'
    clear ho1' hg1' hc3' hm3'
    go_wp2_with fail
    refine (turn_any A3 c3 (sealed l1) a m w1 (by rw [sealed_length]; omega) hc3.out hm3.out ha1 ha2 ho1.out.rb).mono ?_
    rintro e w2 ⟨v2, rfl, ho2', hg2'⟩
    obtain ⟨A4, c4, rfl, hc4', hm4'⟩ := ho2'.shape
    have ho2 := Lib.hid ho2'
    have hg2 := Lib.hid hg2'
    have hc4 := Lib.hid hc4'
    have hm4 := Lib.hid hm4'
    clear ho2' hg2' hc4' hm4'
    go_wp2_with fail
    refine (open_any A4 c4 (turned (sealed l1) a m) w2 (by rw [turned_length, sealed_length]; omega) hc4.out hm4.out ho2.out.rb (hH'.out.gr hH'.out.lt (Gr.trans hg1.out hg2.out))).mono ?_
    rintro e w3 ⟨v3, rfl, ho3', hg3'⟩
    obtain ⟨A5, c5, rfl, hc5', hm5'⟩ := ho3'.shape
    have ho3 := Lib.hid ho3'
    have hg3 := Lib.hid hg3'
    clear ho3' hg3' hc5' hm5'
    have hg : Gr w w3 := Gr.trans hg1.out (Gr.trans hg2.out hg3.out)
    have haw := Lib.hid (awake_any w3 (hH'.out.gr hH'.out.lt hg))
    have hR2 := Lib.hid ((ho2.out.rb.below hg3.out))
    have hR1 := Lib.hid (ho1.out.rb.below (show Gr w1 w3 from Gr.trans hg2.out hg3.out))
    have hgh := Lib.hid hg
    clear hg
    have hR0 := Lib.hid (hr1'.out)
    have hq : opened (turned (sealed l1) a m) = if turned (sealed l1) a m = sealed l1 then (l1, 0) else ([], 12) := by
      split
      · rename_i hx; rw [hx, opened_sealed]
      · rename_i hx; exact finds l1 a m hx
    generalize opened (turned (sealed l1) a m) = r at *
    by_cases hx : turned (sealed l1) a m = sealed l1
    · rw [if_pos hx] at hq
      subst hq
      have hx' : (turned (sealed l1) a m == sealed l1) = true := by simpa using hx
      have hx2 := Lib.hid hx
      clear hx
      have hR5 := Lib.hid ho3.out.rb
      go_wp2_with (first
        | (refine wpList_bytes_string rfl (.tmp 26) 22 9 5 rfl Tryd.underlying22 byteType.1 Tryd.underlying9 _ _ _ _ (turned (sealed l1) a m) rfl rfl hR2.out ?_)
        | (refine wpList_bytes_string rfl (.tmp 28) 22 9 5 rfl Tryd.underlying22 byteType.1 Tryd.underlying9 _ _ _ _ (sealed l1) rfl rfl hR1.out ?_)
        | (go_at_call 7; refine haw.out.mono ?_; rintro e w4 ⟨v, rfl, hv, hg4⟩; obtain rfl : v = .bool true := hv; have hR6 := Lib.hid (hR5.out.below hg4); have hR7 := Lib.hid (hR0.out.below (show Gr w w4 from Gr.trans hgh.out hg4)))
        | (refine wpList_bytes_string rfl (.tmp 37) 22 9 5 rfl Tryd.underlying22 byteType.1 Tryd.underlying9 _ _ _ _ (l1) rfl rfl hR6.out ?_)
        | (refine wpList_bytes_string rfl (.tmp 39) 22 9 5 rfl Tryd.underlying22 byteType.1 Tryd.underlying9 _ _ _ _ (l1) rfl rfl hR7.out ?_))
      go_ret
      exact ⟨_, rfl, by simp [eqv], hgh.out.to hg4⟩
    · rw [if_neg hx] at hq
      subst hq
      have hx' : (turned (sealed l1) a m == sealed l1) = false := by simpa using hx
      have hx2 := Lib.hid hx
      clear hx
      go_wp2_with (first
        | (refine wpList_bytes_string rfl (.tmp 26) 22 9 5 rfl Tryd.underlying22 byteType.1 Tryd.underlying9 _ _ _ _ (turned (sealed l1) a m) rfl rfl hR2.out ?_)
        | (refine wpList_bytes_string rfl (.tmp 28) 22 9 5 rfl Tryd.underlying22 byteType.1 Tryd.underlying9 _ _ _ _ (sealed l1) rfl rfl hR1.out ?_)
        | (go_at_call 7; refine haw.out.mono ?_; rintro e w4 ⟨v, rfl, hv, hg4⟩; obtain rfl : v = .bool true := hv))
      go_ret
      exact ⟨_, rfl, rfl, hgh.out.to hg4⟩
  · have h1' : 300 < l1.length := by omega
    have haw := Lib.hid (awake_any w hH)
    clear hH hr1 hm1 hc1 h1
    go_enter Tryd.func6, Tryd.ntmps6
    go_wp2_with (go_at_call 7; refine haw.out.mono ?_; rintro e w' ⟨v, rfl, hv, hg⟩; obtain rfl : v = .bool true := hv)
    go_ret
    exact ⟨_, rfl, rfl, hg⟩

end Crc
end Go.Proofs.YtbiimdjjikobnaaDoor
