/- The walks of the four laws over the sums of 32 bits: whatever the arguments, each returns true and writes nothing that was there. No condition. -/
import Derived.Test.YtbiimdjjikobnaaDoorCrcWalkD
import Derived.Test.YtbiimdjjikobnaaDoorCrcLaw
set_option linter.unusedVariables false
set_option linter.unusedSimpArgs false
namespace Go.Proofs.YtbiimdjjikobnaaDoor
open Go Go.RowKit W
namespace Crc

set_option maxHeartbeats 1000000 in
theorem crcSums_walk (A1 : Option Addr) (c1 : Nat) (l1 : List UInt8) (A2 : Option Addr) (c2 : Nat) (l2 : List UInt8) (st : UInt32) (w : World) (hc1 : l1.length ≤ c1) (hm1 : c1 ≤ maxLen) (hr1 : RB w w.heap.size A1 l1) (hc2 : l2.length ≤ c2) (hm2 : c2 ≤ maxLen) (hr2 : RB w w.heap.size A2 l2) (hH : Halves w) :
    Calls Tryd.prog 3 #[.slice A1 l1.length c1, .slice A2 l2.length c2, .int .u32 (n32 st)] w (Ret (eqv (.bool true)) w) := by
  unfold maxLen at hm1 hm2
  by_cases h1 : l1.length ≤ 300
  · by_cases h2 : l2.length ≤ 300
    · have hs := Lib.hid (refSum_any (l1 ++ l2) w (by simp; omega))
      obtain ⟨j0, hj0, hj2, hj1, _⟩ := info_parts (show (Tryd.prog.info? 22).map (fun i => (i.zero, i.size, i.bytes)) = some (some (.slice none 0 0), 1, 24) by kernel_rfl)
      have hr1' := Lib.hid hr1
      have hr2' := Lib.hid hr2
      clear hr1 hr2
      go_enter Tryd.func3, Tryd.ntmps3
      go_wp2_with (first
        | (refine wpList_bytes_string rfl (.tmp 18) 22 9 5 rfl Tryd.underlying22 byteType.1 Tryd.underlying9 _ _ _ _ l1 rfl rfl hr1'.out ?_)
        | (refine wpList_bytes_string rfl (.tmp 20) 22 9 5 rfl Tryd.underlying22 byteType.1 Tryd.underlying9 _ _ _ _ l2 rfl rfl hr2'.out ?_)
        | (go_at_call 8; refine hs.out.mono ?_; rintro e w' ⟨rfl, rfl⟩))
      have hr1 := hr1'.out
      have hr2 := hr2'.out
      refine region_grow (by kernel_rfl) (by kernel_rfl) ?_
      refine GW.call0 (eqv (.bool true)) rfl trivial rfl Tryd.func7 (by kernel_rfl) (by kernel_rfl) (eqv_lasts _)  (fun w' hg => ?_) ?_
      · exact awake_any w' (hH.gr hH.lt hg)
      refine GW.mv rfl trivial (.inl rfl) (kn (t := 25) (j := 0) (by kernel_rfl)) (eqv_lasts _) ?_
      refine GW.mv rfl ⟨26, by kernel_rfl, by kernel_rfl, fun _ _ h => h⟩ (.inl rfl) (kn0' (t := 0) (c := .slice A1 l1.length c1) (by kernel_rfl) rfl (isB_lasts l1) (⟨A1, c1, rfl, hc1, hm1, hr1⟩)) (isB_lasts l1) ?_
      refine GW.mv rfl ⟨26, by kernel_rfl, by kernel_rfl, fun _ _ h => h⟩ (.inl rfl) (kn0' (t := 1) (c := .slice A2 l2.length c2) (by kernel_rfl) rfl (isB_lasts l2) (⟨A2, c2, rfl, hc2, hm2, hr2⟩)) (isB_lasts l2) ?_
      refine GW.two (l1) (l2) rfl ⟨26, by kernel_rfl, by kernel_rfl, fun _ _ h => h⟩ rfl Tryd.underlying41 hj0 hj1 hj2 (kn (t := 27) (j := 2) (by kernel_rfl)) (kn (t := 28) (j := 3) (by kernel_rfl)) ?_
      refine GW.call1 (eqv (.int .u32 (n32 (sum (l1 ++ l2))))) rfl ⟨26, by kernel_rfl, by kernel_rfl, fun _ _ h => h⟩ rfl Tryd.func9 (by kernel_rfl) (by kernel_rfl) (eqv_lasts _) (kn (t := 29) (j := 4) (by kernel_rfl)) (fun v w' hg hv => ?_) ?_
      · refine (sum_any [l1, l2] v w' hv (by simp) (by intro x hx; simp at hx; first | (subst hx; simp; omega) | (rcases hx with rfl | rfl <;> omega)) (hH.gr hH.lt hg)).mono ?_
        rintro e w2 ⟨rfl, rfl⟩
        exact ⟨_, rfl, by simp [eqv], Gr.refl _⟩
      refine GW.mv rfl ⟨26, by kernel_rfl, by kernel_rfl, fun _ _ h => h⟩ (.inl rfl) (kn0 (t := 8) (c := .int .u32 (n32 (sum (l1 ++ l2)))) (by kernel_rfl) rfl) (eqv_lasts _) ?_
      refine GW.bin (.bool true) rfl ⟨26, by kernel_rfl, by kernel_rfl, fun _ _ h => h⟩ rfl (kn (t := 30) (j := 5) (by kernel_rfl)) (kn (t := 31) (j := 6) (by kernel_rfl)) (fun w' => run_eql_int rfl _ _ _ w') ?_
      refine GW.pick (b := true) rfl trivial rfl (kn (t := 26) (j := 1) (by kernel_rfl)) (kn (t := 32) (j := 7) (by kernel_rfl)) (eqv_lasts _) ?_
      refine GW.mv rfl trivial (.inl rfl) (kn (t := 33) (j := 8) (by kernel_rfl)) (eqv_lasts _) ?_
      refine GW.mv rfl ⟨34, by kernel_rfl, by kernel_rfl, fun _ _ h => h⟩ (.inl rfl) (kn0 (t := 7) (c := str (l1 ++ l2)) (by kernel_rfl) rfl) (eqv_lasts _) ?_
      refine GW.sb (l1 ++ l2) rfl ⟨34, by kernel_rfl, by kernel_rfl, fun _ _ h => h⟩ rfl Tryd.underlying9 Tryd.underlying22 byteType.1 (by simp; unfold maxLen; omega) (kn (t := 35) (j := 10) (by kernel_rfl)) ?_
      refine GW.one (l1 ++ l2) rfl ⟨34, by kernel_rfl, by kernel_rfl, fun _ _ h => h⟩ rfl Tryd.underlying41 hj0 hj1 hj2 (kn (t := 36) (j := 11) (by kernel_rfl)) ?_
      refine GW.call1 (eqv (.int .u32 (n32 (sum (l1 ++ l2))))) rfl ⟨34, by kernel_rfl, by kernel_rfl, fun _ _ h => h⟩ rfl Tryd.func9 (by kernel_rfl) (by kernel_rfl) (eqv_lasts _) (kn (t := 37) (j := 12) (by kernel_rfl)) (fun v w' hg hv => ?_) ?_
      · refine (sum_any [l1 ++ l2] v w' hv (by simp) (by intro x hx; simp at hx; first | (subst hx; simp; omega) | (rcases hx with rfl | rfl <;> omega)) (hH.gr hH.lt hg)).mono ?_
        rintro e w2 ⟨rfl, rfl⟩
        exact ⟨_, rfl, by simp [eqv], Gr.refl _⟩
      refine GW.mv rfl ⟨34, by kernel_rfl, by kernel_rfl, fun _ _ h => h⟩ (.inl rfl) (kn0 (t := 8) (c := .int .u32 (n32 (sum (l1 ++ l2)))) (by kernel_rfl) rfl) (eqv_lasts _) ?_
      refine GW.bin (.bool true) rfl ⟨34, by kernel_rfl, by kernel_rfl, fun _ _ h => h⟩ rfl (kn (t := 38) (j := 13) (by kernel_rfl)) (kn (t := 39) (j := 14) (by kernel_rfl)) (fun w' => run_eql_int rfl _ _ _ w') ?_
      refine GW.pick (b := true) rfl trivial rfl (kn (t := 34) (j := 9) (by kernel_rfl)) (kn (t := 40) (j := 15) (by kernel_rfl)) (eqv_lasts _) ?_
      refine GW.mv rfl trivial (.inl rfl) (kn (t := 41) (j := 16) (by kernel_rfl)) (eqv_lasts _) ?_
      refine GW.mv rfl ⟨42, by kernel_rfl, by kernel_rfl, fun _ _ h => h⟩ (.inl rfl) (kn0 (t := 2) (c := .int .u32 (n32 (st))) (by kernel_rfl) rfl) (eqv_lasts _) ?_
      refine GW.mv rfl ⟨42, by kernel_rfl, by kernel_rfl, fun _ _ h => h⟩ (.inl rfl) (kn0' (t := 0) (c := .slice A1 l1.length c1) (by kernel_rfl) rfl (isB_lasts l1) (⟨A1, c1, rfl, hc1, hm1, hr1⟩)) (isB_lasts l1) ?_
      refine GW.call2 (eqv (.int .u32 (n32 (more st l1)))) rfl ⟨42, by kernel_rfl, by kernel_rfl, fun _ _ h => h⟩ rfl Tryd.func10 (by kernel_rfl) (by kernel_rfl) (eqv_lasts _) (kn (t := 43) (j := 18) (by kernel_rfl)) (kn (t := 44) (j := 19) (by kernel_rfl)) (fun v u w' hg hv hu => ?_) ?_
      · obtain rfl : v = _ := hv
        obtain ⟨A, c, rfl, _, _, hr⟩ := hu
        refine (more_any st A c _ l1 w' (by omega) hr (hH.gr hH.lt hg)).mono ?_
        rintro e w2 ⟨rfl, rfl⟩
        exact ⟨_, rfl, rfl, Gr.refl _⟩
      refine GW.mv rfl ⟨42, by kernel_rfl, by kernel_rfl, fun _ _ h => h⟩ (.inl rfl) (kn0 (t := 2) (c := .int .u32 (n32 (st))) (by kernel_rfl) rfl) (eqv_lasts _) ?_
      refine GW.mv rfl ⟨42, by kernel_rfl, by kernel_rfl, fun _ _ h => h⟩ (.inl rfl) (kn0' (t := 0) (c := .slice A1 l1.length c1) (by kernel_rfl) rfl (isB_lasts l1) (⟨A1, c1, rfl, hc1, hm1, hr1⟩)) (isB_lasts l1) ?_
      refine GW.bs (l1) rfl ⟨42, by kernel_rfl, by kernel_rfl, fun _ _ h => h⟩ rfl Tryd.underlying22 byteType.1 Tryd.underlying9 (kn (t := 47) (j := 22) (by kernel_rfl)) ?_
      refine GW.call2 (eqv (.int .u32 (n32 (more st l1)))) rfl ⟨42, by kernel_rfl, by kernel_rfl, fun _ _ h => h⟩ rfl Tryd.func11 (by kernel_rfl) (by kernel_rfl) (eqv_lasts _) (kn (t := 46) (j := 21) (by kernel_rfl)) (kn (t := 48) (j := 23) (by kernel_rfl)) (fun v u w' hg hv hu => ?_) ?_
      · obtain rfl : v = _ := hv
        obtain rfl : u = _ := hu
        refine (refMore_any st l1 w' (by omega)).mono ?_
        rintro e w2 ⟨rfl, rfl⟩
        exact ⟨_, rfl, rfl, Gr.refl _⟩
      refine GW.bin (.bool true) rfl ⟨42, by kernel_rfl, by kernel_rfl, fun _ _ h => h⟩ rfl (kn (t := 45) (j := 20) (by kernel_rfl)) (kn (t := 49) (j := 24) (by kernel_rfl)) (fun w' => run_eql_int rfl _ _ _ w') ?_
      refine GW.pick (b := true) rfl trivial rfl (kn (t := 42) (j := 17) (by kernel_rfl)) (kn (t := 50) (j := 25) (by kernel_rfl)) (eqv_lasts _) ?_
      refine GW.mv rfl trivial (.inr rfl) (kn (t := 51) (j := 26) (by kernel_rfl)) (eqv_lasts _) ?_
      refine GW.done (by simp) (fun w' hg => ?_)
      intro v0 _ v1 _ v2 _ v3 _ v4 _ v5 _ v6 _ v7 _ v8 _ v9 _ v10 _ v11 _ v12 _ v13 _ v14 _ v15 _ v16 _ v17 _ v18 _ v19 _ v20 _ v21 _ v22 _ v23 _ v24 _ v25 _ v26 _ v27 h27
      obtain rfl : v27 = (.bool true) := h27
      simp only [GFin, Act.put, List.setIfInBounds_toArray, List.set_cons_succ, List.set_cons_zero]
      go_wp2
      go_ret
      exact ⟨_, rfl, rfl, hg⟩
    · have h2' : 300 < l2.length := by omega
      have haw := Lib.hid (awake_any w hH)
      clear hH hr1 hr2 hm1 hm2 hc1 hc2 h2
      go_enter Tryd.func3, Tryd.ntmps3
      go_wp2_with (go_at_call 7; refine haw.out.mono ?_; rintro e w' ⟨v, rfl, hv, hg⟩; obtain rfl : v = .bool true := hv)
      go_ret
      exact ⟨_, rfl, rfl, hg⟩
  · have h1' : 300 < l1.length := by omega
    have haw := Lib.hid (awake_any w hH)
    clear hH hr1 hr2 hm1 hm2 hc1 hc2 h1
    go_enter Tryd.func3, Tryd.ntmps3
    go_wp2_with (go_at_call 7; refine haw.out.mono ?_; rintro e w' ⟨v, rfl, hv, hg⟩; obtain rfl : v = .bool true := hv)
    go_ret
    exact ⟨_, rfl, rfl, hg⟩

end Crc
end Go.Proofs.YtbiimdjjikobnaaDoor
