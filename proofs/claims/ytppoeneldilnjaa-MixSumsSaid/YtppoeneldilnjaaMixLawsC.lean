/- The walk of MixSums: whatever the arguments, it returns true and writes nothing that was there. No condition. -/
import Derived.Test.YtppoeneldilnjaaMixWords
import Derived.Test.YtppoeneldilnjaaMixLawsA
set_option linter.unusedVariables false
set_option linter.unusedSimpArgs false
namespace Go.Proofs.Ytppoeneldilnjaa
open Go Go.RowKit W
namespace Mix
def isW (l : List UInt64) : Ass := fun v w => ∃ A c, v = .slice A l.length c ∧ RW w w.heap.size A l
theorem isW_lasts (l : List UInt64) : Lasts (isW l) := fun _ _ _ hg ⟨A, c, hv, hr⟩ => ⟨A, c, hv, Reads.more (Reads.below hr hg) hg.size⟩
set_option maxHeartbeats 1000000 in
theorem mixSums_walk (A1 : Option Addr) (c1 : Nat) (l1 : List UInt8) (A2 : Option Addr) (c2 : Nat) (l2 : List UInt64) (w : World)
    (hc1 : l1.length ≤ c1) (hm1 : c1 ≤ maxLen) (hr1 : RB w w.heap.size A1 l1) (hm2 : l2.length ≤ 9223372036854775807) (hr2 : RW w w.heap.size A2 l2) :
    Calls Try.prog 5 #[.slice A1 l1.length c1, .slice A2 l2.length c2] w (Ret (eqv (.bool true)) w) := by
  have hm1' := hm1
  unfold maxLen at hm1'
  by_cases h1 : 400 < l1.length
  · have haw := Lib.hid (awake_any w)
    clear hr1 hr2 hm1
    go_enter Try.func5, Try.ntmps5
    go_wp2_with (go_at_call 8; refine haw.out.mono ?_; rintro e w' ⟨v, rfl, hv, hg⟩; obtain rfl : v = .bool true := hv)
    go_ret
    exact ⟨_, rfl, rfl, hg⟩
  · by_cases h2 : 40 < l2.length
    · have haw := Lib.hid (awake_any w)
      clear hr1 hr2 hm1
      go_enter Try.func5, Try.ntmps5
      go_wp2_with (go_at_call 8; refine haw.out.mono ?_; rintro e w' ⟨v, rfl, hv, hg⟩; obtain rfl : v = .bool true := hv)
      go_ret
      exact ⟨_, rfl, rfl, hg⟩
    · have hr1' := Lib.hid hr1
      have hr2' := Lib.hid hr2
      have hk := Lib.hid hm1
      clear hr1 hr2 hm1
      go_enter Try.func5, Try.ntmps5
      go_wp2
      have hr1 := hr1'.out
      have hr2 := hr2'.out
      have hm1 := hk.out
      refine region_grow (by kernel_rfl) (by kernel_rfl) ?_
      refine GW.call0 (eqv (.bool true)) rfl trivial rfl Try.func8 (by kernel_rfl) (by kernel_rfl) (eqv_lasts _)  (fun w' hg => ?_) ?_
      · exact awake_any w'
      refine GW.mv rfl trivial (.inl rfl) (kn (t := 14) (j := 0) (by kernel_rfl)) (eqv_lasts _) ?_
      refine GW.mv rfl ⟨15, by kernel_rfl, by kernel_rfl, fun _ _ h => h⟩ (.inl rfl) (kn0' (t := 0) (c := .slice A1 l1.length c1) (by kernel_rfl) rfl (isB_lasts l1) (⟨A1, c1, rfl, hc1, hm1, hr1⟩)) (isB_lasts l1) ?_
      refine GW.call1 (eqv (sumV (of l1))) rfl ⟨15, by kernel_rfl, by kernel_rfl, fun _ _ h => h⟩ rfl Try.func9 (by kernel_rfl) (by kernel_rfl) (eqv_lasts _) (kn (t := 16) (j := 2) (by kernel_rfl)) (fun v w' hg hv => ?_) ?_
      · obtain ⟨A, c, rfl, hc, _, hr⟩ := hv
        refine (of_any A c l1 w' (by omega) hc hr).mono ?_
        rintro e w2 ⟨rfl, hg2⟩
        exact ⟨_, rfl, rfl, hg2⟩
      refine GW.mv rfl ⟨15, by kernel_rfl, by kernel_rfl, fun _ _ h => h⟩ (.inl rfl) (kn0' (t := 0) (c := .slice A1 l1.length c1) (by kernel_rfl) rfl (isB_lasts l1) (⟨A1, c1, rfl, hc1, hm1, hr1⟩)) (isB_lasts l1) ?_
      refine GW.bs (l1) rfl ⟨15, by kernel_rfl, by kernel_rfl, fun _ _ h => h⟩ rfl Try.underlying22 byteType.1 Try.underlying9 (kn (t := 18) (j := 4) (by kernel_rfl)) ?_
      refine GW.call1 (eqv (sumV (of l1))) rfl ⟨15, by kernel_rfl, by kernel_rfl, fun _ _ h => h⟩ rfl Try.func12 (by kernel_rfl) (by kernel_rfl) (eqv_lasts _) (kn (t := 19) (j := 5) (by kernel_rfl)) (fun v w' hg hv => ?_) ?_
      · obtain rfl : v = _ := hv
        refine (refOf_any l1 w' (by omega)).mono ?_
        rintro e w2 ⟨rfl, hg2⟩
        exact ⟨_, rfl, rfl, hg2⟩
      refine GW.bin (.bool true) rfl ⟨15, by kernel_rfl, by kernel_rfl, fun _ _ h => h⟩ rfl (kn (t := 17) (j := 3) (by kernel_rfl)) (kn (t := 20) (j := 6) (by kernel_rfl)) (fun w' => by rw [run_eql_sum]; simp) ?_
      refine GW.pick (b := true) rfl trivial rfl (kn (t := 15) (j := 1) (by kernel_rfl)) (kn (t := 21) (j := 7) (by kernel_rfl)) (eqv_lasts _) ?_
      refine GW.mv rfl trivial (.inl rfl) (kn (t := 22) (j := 8) (by kernel_rfl)) (eqv_lasts _) ?_
      refine GW.mv rfl ⟨23, by kernel_rfl, by kernel_rfl, fun _ _ h => h⟩ (.inl rfl) (kn0' (t := 1) (c := .slice A2 l2.length c2) (by kernel_rfl) rfl (isW_lasts l2) (⟨A2, c2, rfl, hr2⟩)) (isW_lasts l2) ?_
      refine GW.call1 (eqv (sumV (of (wordsB l2)))) rfl ⟨23, by kernel_rfl, by kernel_rfl, fun _ _ h => h⟩ rfl Try.func14 (by kernel_rfl) (by kernel_rfl) (eqv_lasts _) (kn (t := 24) (j := 10) (by kernel_rfl)) (fun v w' hg hv => ?_) ?_
      · obtain ⟨A, c, rfl, hr⟩ := hv
        refine (words_any A c l2 w' (by omega) hr).mono ?_
        rintro e w2 ⟨rfl, hg2⟩
        exact ⟨_, rfl, rfl, hg2⟩
      refine GW.mv rfl ⟨23, by kernel_rfl, by kernel_rfl, fun _ _ h => h⟩ (.inl rfl) (kn0' (t := 1) (c := .slice A2 l2.length c2) (by kernel_rfl) rfl (isW_lasts l2) (⟨A2, c2, rfl, hr2⟩)) (isW_lasts l2) ?_
      refine GW.call1 (eqv (str (wordsB l2))) rfl ⟨23, by kernel_rfl, by kernel_rfl, fun _ _ h => h⟩ rfl Try.func15 (by kernel_rfl) (by kernel_rfl) (eqv_lasts _) (kn (t := 26) (j := 12) (by kernel_rfl)) (fun v w' hg hv => ?_) ?_
      · obtain ⟨A, c, rfl, hr⟩ := hv
        refine (refBytes_any A c l2 w' (by omega) hr).mono ?_
        rintro e w2 ⟨rfl, hg2⟩
        exact ⟨_, rfl, rfl, hg2⟩
      refine GW.call1 (eqv (sumV (of (wordsB l2)))) rfl ⟨23, by kernel_rfl, by kernel_rfl, fun _ _ h => h⟩ rfl Try.func12 (by kernel_rfl) (by kernel_rfl) (eqv_lasts _) (kn (t := 27) (j := 13) (by kernel_rfl)) (fun v w' hg hv => ?_) ?_
      · obtain rfl : v = _ := hv
        refine (refOf_any (wordsB l2) w' (by rw [wordsB_length]; omega)).mono ?_
        rintro e w2 ⟨rfl, hg2⟩
        exact ⟨_, rfl, rfl, hg2⟩
      refine GW.bin (.bool true) rfl ⟨23, by kernel_rfl, by kernel_rfl, fun _ _ h => h⟩ rfl (kn (t := 25) (j := 11) (by kernel_rfl)) (kn (t := 28) (j := 14) (by kernel_rfl)) (fun w' => by rw [run_eql_sum]; simp) ?_
      refine GW.pick (b := true) rfl trivial rfl (kn (t := 23) (j := 9) (by kernel_rfl)) (kn (t := 29) (j := 15) (by kernel_rfl)) (eqv_lasts _) ?_
      refine GW.mv rfl trivial (.inr rfl) (kn (t := 30) (j := 16) (by kernel_rfl)) (eqv_lasts _) ?_
      refine GW.done (by simp) (by kernel_rfl) (fun w' hg => ?_)
      intro v0 _ v1 _ v2 _ v3 _ v4 _ v5 _ v6 _ v7 _ v8 _ v9 _ v10 _ v11 _ v12 _ v13 _ v14 _ v15 _ v16 _ v17 h17
      obtain rfl : v17 = (.bool true) := h17
      simp only [GFin, Act.put, List.setIfInBounds_toArray, List.set_cons_succ, List.set_cons_zero]
      clear hr1 hr2 hr1' hr2' hk hm1
      go_wp2
      go_ret
      exact ⟨_, rfl, rfl, hg⟩
end Mix
end Go.Proofs.Ytppoeneldilnjaa
