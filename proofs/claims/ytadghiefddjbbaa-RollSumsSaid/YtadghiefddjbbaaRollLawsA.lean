/- The walk of RollSums: whatever the arguments, it returns true and writes nothing that was there. No condition. -/
import Derived.Test.YtadghiefddjbbaaRollWalk
import Derived.Test.YtadghiefddjbbaaGrowB
set_option linter.unusedVariables false
set_option linter.unusedSimpArgs false
namespace Go.Proofs.Ytadghiefddjbbaa
open Go Go.RowKit W
namespace Roll
theorem len_ne (o : UInt8) (t : List UInt8) : ((((o :: t).length : Nat) : Int) == 0) = false := by
  rw [beq_eq_false_iff_ne, List.length_cons]; omega
theorem byteInfo : ∃ i, Try.prog.info? 5 = some i ∧ i.zero = some (.int .u8 0) ∧ i.size = 1 ∧ i.bytes = 1 := by
  obtain ⟨i, h1, h2, h3, h4⟩ := info_parts byteType.2
  exact ⟨i, h1, h2, h3, h4⟩
set_option maxHeartbeats 1000000 in
theorem rollSums_walk (A1 : Option Addr) (c1 : Nat) (l1 : List UInt8) (A2 : Option Addr) (c2 : Nat) (l2 : List UInt8) (b : UInt8) (w : World)
    (hc1 : l1.length ≤ c1) (hm1 : c1 ≤ maxLen) (hr1 : RB w w.heap.size A1 l1) (hc2 : l2.length ≤ c2) (hm2 : c2 ≤ maxLen) (hr2 : RB w w.heap.size A2 l2) :
    Calls Try.prog 3 #[.slice A1 l1.length c1, .slice A2 l2.length c2, .int .u8 (n8 b)] w (Ret (eqv (.bool true)) w) := by
  by_cases h1 : l1.length ≤ 400
  · by_cases h2 : l2.length ≤ 400
    · obtain ⟨i0, hi0, hz0, hz1, hz2⟩ := byteInfo
      have hof := Lib.hid (of_any A1 c1 _ l1 w (by omega) (Nat.le_refl _) hr1)
      have hr1' := Lib.hid hr1
      have hr2' := Lib.hid hr2
      clear hr1 hr2
      go_enter Try.func3, Try.ntmps3
      go_wp2_with (go_at_call 7; refine hof.out.mono ?_; clear hof; rintro e w0 ⟨rfl, hg0⟩; have hg0h := Lib.hid hg0; clear hg0)
      have hr1 := hr1'.out
      have hr2 := hr2'.out
      have hg0 := hg0h.out
      refine region_grow (by kernel_rfl) (by kernel_rfl) ?_
      refine GW.mv rfl trivial (.inl rfl) (kn0 (t := 7) (c := .int .u32 (n32 (of l1))) (by kernel_rfl) rfl) (eqv_lasts _) ?_
      refine GW.mv rfl trivial (.inl rfl) (kn0' (t := 0) (c := .slice A1 l1.length c1) (by kernel_rfl) rfl (isB_lasts l1) (⟨A1, c1, rfl, hc1, hm1, (hr1.below hg0).more hg0.size⟩)) (isB_lasts l1) ?_
      refine GW.bs (l1) rfl trivial rfl Try.underlying22 byteType.1 Try.underlying9 (kn (t := 20) (j := 1) (by kernel_rfl)) ?_
      refine GW.call1 (eqv (.int .u32 (n32 (of (l1))))) rfl trivial rfl Try.func8 (by kernel_rfl) (by kernel_rfl) (eqv_lasts _) (kn (t := 21) (j := 2) (by kernel_rfl)) (fun v w' hg hv => ?_) ?_
      · obtain rfl : v = _ := hv
        refine (refOf_any (l1) w' (by (try simp); omega)).mono ?_
        rintro e w2 ⟨rfl, rfl⟩
        exact ⟨_, rfl, rfl, Gr.refl _⟩
      refine GW.bin (.bool false) rfl trivial rfl (kn (t := 19) (j := 0) (by kernel_rfl)) (kn (t := 22) (j := 3) (by kernel_rfl)) (fun w' => run_neq_int rfl _ _ _ w') ?_
      refine GW.mv rfl trivial (.inl rfl) (kn (t := 23) (j := 4) (by kernel_rfl)) (eqv_lasts _) ?_
      refine GW.mv rfl ⟨24, by kernel_rfl, by kernel_rfl, fun _ _ h => h⟩ (.inl rfl) (kn0 (t := 7) (c := .int .u32 (n32 (of l1))) (by kernel_rfl) rfl) (eqv_lasts _) ?_
      refine GW.mv rfl ⟨24, by kernel_rfl, by kernel_rfl, fun _ _ h => h⟩ (.inl rfl) (kn0 (t := 2) (c := .int .u8 (n8 b)) (by kernel_rfl) rfl) (eqv_lasts _) ?_
      refine GW.call2 (eqv (.int .u32 (n32 (grow (of l1) b)))) rfl ⟨24, by kernel_rfl, by kernel_rfl, fun _ _ h => h⟩ rfl Try.func9 (by kernel_rfl) (by kernel_rfl) (eqv_lasts _) (kn (t := 25) (j := 6) (by kernel_rfl)) (kn (t := 26) (j := 7) (by kernel_rfl)) (fun v u w' hg hv hu => ?_) ?_
      · obtain rfl : v = _ := hv
        obtain rfl : u = _ := hu
        refine (grow_any (of l1) b w').mono ?_
        rintro e w2 ⟨rfl, rfl⟩
        exact ⟨_, rfl, rfl, Gr.refl _⟩
      refine GW.mv rfl ⟨24, by kernel_rfl, by kernel_rfl, fun _ _ h => h⟩ (.inl rfl) (kn0' (t := 0) (c := .slice A1 l1.length c1) (by kernel_rfl) rfl (isB_lasts l1) (⟨A1, c1, rfl, hc1, hm1, (hr1.below hg0).more hg0.size⟩)) (isB_lasts l1) ?_
      refine GW.bs (l1) rfl ⟨24, by kernel_rfl, by kernel_rfl, fun _ _ h => h⟩ rfl Try.underlying22 byteType.1 Try.underlying9 (kn (t := 28) (j := 9) (by kernel_rfl)) ?_
      refine GW.mv rfl ⟨24, by kernel_rfl, by kernel_rfl, fun _ _ h => h⟩ (.inl rfl) (kn0 (t := 2) (c := .int .u8 (n8 b)) (by kernel_rfl) rfl) (eqv_lasts _) ?_
      refine GW.byte1 (b) rfl ⟨24, by kernel_rfl, by kernel_rfl, fun _ _ h => h⟩ rfl Try.underlying22 hi0 hz1 hz0 (kn (t := 30) (j := 11) (by kernel_rfl)) ?_
      refine GW.bs ([b]) rfl ⟨24, by kernel_rfl, by kernel_rfl, fun _ _ h => h⟩ rfl Try.underlying22 byteType.1 Try.underlying9 (kn (t := 31) (j := 12) (by kernel_rfl)) ?_
      refine GW.cat (l1) ([b]) (by (try simp); omega) rfl ⟨24, by kernel_rfl, by kernel_rfl, fun _ _ h => h⟩ rfl (kn (t := 29) (j := 10) (by kernel_rfl)) (kn (t := 32) (j := 13) (by kernel_rfl)) ?_
      refine GW.call1 (eqv (.int .u32 (n32 (of (l1 ++ [b]))))) rfl ⟨24, by kernel_rfl, by kernel_rfl, fun _ _ h => h⟩ rfl Try.func8 (by kernel_rfl) (by kernel_rfl) (eqv_lasts _) (kn (t := 33) (j := 14) (by kernel_rfl)) (fun v w' hg hv => ?_) ?_
      · obtain rfl : v = _ := hv
        refine (refOf_any (l1 ++ [b]) w' (by (try simp); omega)).mono ?_
        rintro e w2 ⟨rfl, rfl⟩
        exact ⟨_, rfl, rfl, Gr.refl _⟩
      refine GW.bin (.bool false) rfl ⟨24, by kernel_rfl, by kernel_rfl, fun _ _ h => h⟩ rfl (kn (t := 27) (j := 8) (by kernel_rfl)) (kn (t := 34) (j := 15) (by kernel_rfl)) (fun w' => run_neq_int (by rw [grow_of]) _ _ _ w') ?_
      refine GW.pick (b := false) rfl trivial rfl (kn (t := 24) (j := 5) (by kernel_rfl)) (kn (t := 35) (j := 16) (by kernel_rfl)) (eqv_lasts _) ?_
      refine GW.mv rfl trivial (.inl rfl) (kn (t := 36) (j := 17) (by kernel_rfl)) (eqv_lasts _) ?_
      refine GW.mv rfl ⟨37, by kernel_rfl, by kernel_rfl, fun _ _ h => h⟩ (.inl rfl) (kn0 (t := 7) (c := .int .u32 (n32 (of l1))) (by kernel_rfl) rfl) (eqv_lasts _) ?_
      refine GW.mv rfl ⟨37, by kernel_rfl, by kernel_rfl, fun _ _ h => h⟩ (.inl rfl) (kn0' (t := 1) (c := .slice A2 l2.length c2) (by kernel_rfl) rfl (isB_lasts l2) (⟨A2, c2, rfl, hc2, hm2, (hr2.below hg0).more hg0.size⟩)) (isB_lasts l2) ?_
      refine GW.call1 (eqv (.int .u32 (n32 (of (l2))))) rfl ⟨37, by kernel_rfl, by kernel_rfl, fun _ _ h => h⟩ rfl Try.func7 (by kernel_rfl) (by kernel_rfl) (eqv_lasts _) (kn (t := 39) (j := 20) (by kernel_rfl)) (fun v w' hg hv => ?_) ?_
      · obtain ⟨A, c, rfl, _, _, hr⟩ := hv
        refine (of_any A c _ (l2) w' (by omega) (Nat.le_refl _) hr).mono ?_
        rintro e w2 ⟨rfl, hg⟩
        exact ⟨_, rfl, rfl, hg⟩
      refine GW.mv rfl ⟨37, by kernel_rfl, by kernel_rfl, fun _ _ h => h⟩ (.inl rfl) (kn0' (t := 1) (c := .slice A2 l2.length c2) (by kernel_rfl) rfl (isB_lasts l2) (⟨A2, c2, rfl, hc2, hm2, (hr2.below hg0).more hg0.size⟩)) (isB_lasts l2) ?_
      refine GW.lenB l2 rfl ⟨37, by kernel_rfl, by kernel_rfl, fun _ _ h => h⟩ rfl Try.underlying22 (kn (t := 41) (j := 22) (by kernel_rfl)) ?_
      refine GW.call3 (eqv (.int .u32 (n32 (both (of l1) (of l2) (UInt16.ofNat l2.length))))) rfl ⟨37, by kernel_rfl, by kernel_rfl, fun _ _ h => h⟩ rfl Try.func10 (by kernel_rfl) (by kernel_rfl) (eqv_lasts _) (kn (t := 38) (j := 19) (by kernel_rfl)) (kn (t := 40) (j := 21) (by kernel_rfl)) (kn (t := 42) (j := 23) (by kernel_rfl)) (fun v u s w' hg hv hu hs' => ?_) ?_
      · obtain rfl : v = _ := hv
        obtain rfl : u = _ := hu
        obtain rfl : s = _ := hs'
        refine (both_any (of l1) (of l2) l2.length w' (by omega)).mono ?_
        rintro e w2 ⟨rfl, rfl⟩
        exact ⟨_, rfl, rfl, Gr.refl _⟩
      refine GW.mv rfl ⟨37, by kernel_rfl, by kernel_rfl, fun _ _ h => h⟩ (.inl rfl) (kn0' (t := 0) (c := .slice A1 l1.length c1) (by kernel_rfl) rfl (isB_lasts l1) (⟨A1, c1, rfl, hc1, hm1, (hr1.below hg0).more hg0.size⟩)) (isB_lasts l1) ?_
      refine GW.bs (l1) rfl ⟨37, by kernel_rfl, by kernel_rfl, fun _ _ h => h⟩ rfl Try.underlying22 byteType.1 Try.underlying9 (kn (t := 44) (j := 25) (by kernel_rfl)) ?_
      refine GW.mv rfl ⟨37, by kernel_rfl, by kernel_rfl, fun _ _ h => h⟩ (.inl rfl) (kn0' (t := 1) (c := .slice A2 l2.length c2) (by kernel_rfl) rfl (isB_lasts l2) (⟨A2, c2, rfl, hc2, hm2, (hr2.below hg0).more hg0.size⟩)) (isB_lasts l2) ?_
      refine GW.bs (l2) rfl ⟨37, by kernel_rfl, by kernel_rfl, fun _ _ h => h⟩ rfl Try.underlying22 byteType.1 Try.underlying9 (kn (t := 46) (j := 27) (by kernel_rfl)) ?_
      refine GW.cat (l1) (l2) (by (try simp); omega) rfl ⟨37, by kernel_rfl, by kernel_rfl, fun _ _ h => h⟩ rfl (kn (t := 45) (j := 26) (by kernel_rfl)) (kn (t := 47) (j := 28) (by kernel_rfl)) ?_
      refine GW.call1 (eqv (.int .u32 (n32 (of (l1 ++ l2))))) rfl ⟨37, by kernel_rfl, by kernel_rfl, fun _ _ h => h⟩ rfl Try.func8 (by kernel_rfl) (by kernel_rfl) (eqv_lasts _) (kn (t := 48) (j := 29) (by kernel_rfl)) (fun v w' hg hv => ?_) ?_
      · obtain rfl : v = _ := hv
        refine (refOf_any (l1 ++ l2) w' (by (try simp); omega)).mono ?_
        rintro e w2 ⟨rfl, rfl⟩
        exact ⟨_, rfl, rfl, Gr.refl _⟩
      refine GW.bin (.bool false) rfl ⟨37, by kernel_rfl, by kernel_rfl, fun _ _ h => h⟩ rfl (kn (t := 43) (j := 24) (by kernel_rfl)) (kn (t := 49) (j := 30) (by kernel_rfl)) (fun w' => run_neq_int (by rw [both_of]) _ _ _ w') ?_
      refine GW.pick (b := false) rfl trivial rfl (kn (t := 37) (j := 18) (by kernel_rfl)) (kn (t := 50) (j := 31) (by kernel_rfl)) (eqv_lasts _) ?_
      refine GW.done (by simp) (fun w' hg => ?_)
      intro v0 _ v1 _ v2 _ v3 _ v4 _ v5 _ v6 _ v7 _ v8 _ v9 _ v10 _ v11 _ v12 _ v13 _ v14 _ v15 _ v16 _ v17 _ v18 _ v19 _ v20 _ v21 _ v22 _ v23 _ v24 _ v25 _ v26 _ v27 _ v28 _ v29 _ v30 _ v31 _ v32 h32
      obtain rfl : v32 = (.bool false) := h32
      simp only [GFin, Act.put, List.setIfInBounds_toArray, List.set_cons_succ, List.set_cons_zero]
      have hg1 : Gr w w' := hg0.trans hg
      clear hg hg0 hg0h
      go_wp2
      clear hr1' hr2'
      cases l1 with
      | nil =>
        refine region_grow (by kernel_rfl) (by kernel_rfl) ?_
        refine GW.call0 (eqv (.bool true)) rfl trivial rfl Try.func6 (by kernel_rfl) (by kernel_rfl) (eqv_lasts _)  (fun w' hg => ?_) ?_
        · exact awake_any w'
        refine GW.mv rfl trivial (.inl rfl) (kn (t := 52) (j := 0) (by kernel_rfl)) (eqv_lasts _) ?_
        refine GW.mv rfl ⟨53, by kernel_rfl, by kernel_rfl, fun _ _ h => h⟩ (.inl rfl) (kn0' (t := 0) (c := .slice A1 0 c1) (by kernel_rfl) rfl (isB_lasts []) (⟨A1, c1, rfl, hc1, hm1, (hr1.below hg1).more hg1.size⟩)) (isB_lasts []) ?_
        refine GW.lenB [] rfl ⟨53, by kernel_rfl, by kernel_rfl, fun _ _ h => h⟩ rfl Try.underlying22 (kn (t := 54) (j := 2) (by kernel_rfl)) ?_
        refine GW.bin (.bool true) rfl ⟨53, by kernel_rfl, by kernel_rfl, fun _ _ h => h⟩ rfl (kn (t := 55) (j := 3) (by kernel_rfl)) knc (fun w' => run_eql_int rfl _ _ _ w') ?_
        refine GW.mv rfl ⟨53, by kernel_rfl, by kernel_rfl, fun _ _ h => h⟩ (.inl rfl) (kn (t := 56) (j := 4) (by kernel_rfl)) (eqv_lasts _) ?_
        refine GW.skip rfl rfl (d := 57) (by kernel_rfl) (by kernel_rfl) (fun _ _ h => .inl h) ?_
        refine GW.skip rfl rfl (d := 57) (by kernel_rfl) (by kernel_rfl) (fun _ _ h => .inl h) ?_
        refine GW.skip rfl rfl (d := 57) (by kernel_rfl) (by kernel_rfl) (fun _ _ h => .inl h) ?_
        refine GW.skip rfl rfl (d := 57) (by kernel_rfl) (by kernel_rfl) (fun _ _ h => .inl h) ?_
        refine GW.skip rfl rfl (d := 57) (by kernel_rfl) (by kernel_rfl) (fun _ _ h => .inl h) ?_
        refine GW.skip rfl rfl (d := 57) (by kernel_rfl) (by kernel_rfl) (fun _ _ h => .inl h) ?_
        refine GW.skip rfl rfl (d := 57) (by kernel_rfl) (by kernel_rfl) (fun _ _ h => .inl h) ?_
        refine GW.skip rfl rfl (d := 57) (by kernel_rfl) (by kernel_rfl) (fun _ _ h => .inl h) ?_
        refine GW.skip rfl rfl (d := 57) (by kernel_rfl) (by kernel_rfl) (fun _ _ h => .inl h) ?_
        refine GW.skip rfl rfl (d := 57) (by kernel_rfl) (by kernel_rfl) (fun _ _ h => .inl h) ?_
        refine GW.skip rfl rfl (d := 57) (by kernel_rfl) (by kernel_rfl) (fun _ _ h => .inl h) ?_
        refine GW.skip rfl rfl (d := 57) (by kernel_rfl) (by kernel_rfl) (fun _ _ h => .inl h) ?_
        refine GW.skip rfl rfl (d := 57) (by kernel_rfl) (by kernel_rfl) (fun _ _ h => .inl h) ?_
        refine GW.skip rfl rfl (d := 57) (by kernel_rfl) (by kernel_rfl) (fun _ _ h => .inl h) ?_
        refine GW.skip rfl rfl (d := 57) (by kernel_rfl) (by kernel_rfl) (fun _ _ h => .inl h) ?_
        refine GW.skip rfl rfl (d := 57) (by kernel_rfl) (by kernel_rfl) (fun _ _ h => .inl h) ?_
        refine GW.skip rfl rfl (d := 57) (by kernel_rfl) (by kernel_rfl) (fun _ _ h => .inl h) ?_
        refine GW.pick (b := true) rfl ⟨53, by kernel_rfl, by kernel_rfl, fun _ _ h => h⟩ rfl (kn (t := 57) (j := 5) (by kernel_rfl)) (knc) (eqv_lasts _) ?_
        refine GW.pick (b := true) rfl trivial rfl (kn (t := 53) (j := 1) (by kernel_rfl)) (kn (t := 75) (j := 23) (by kernel_rfl)) (eqv_lasts _) ?_
        refine GW.mv rfl trivial (.inr rfl) (kn (t := 76) (j := 24) (by kernel_rfl)) (eqv_lasts _) ?_
        refine GW.done (by simp) (fun w' hg => ?_)
        intro v0 _ v1 _ v2 _ v3 _ v4 _ v5 _ v6 _ v7 _ v8 _ v9 _ v10 _ v11 _ v12 _ v13 _ v14 _ v15 _ v16 _ v17 _ v18 _ v19 _ v20 _ v21 _ v22 _ v23 _ v24 _ v25 h25
        obtain rfl : v25 = (Value.bool true) := h25
        simp only [GFin, Act.put, List.setIfInBounds_toArray, List.set_cons_succ, List.set_cons_zero]
        have hg2 : Gr w w' := hg1.trans hg
        clear hr1 hr2 hg1 hg
        go_wp2
        go_ret
        exact ⟨_, rfl, rfl, hg2⟩
      | cons o t =>
        have h1' := h1
        rw [List.length_cons] at h1'
        refine region_grow (by kernel_rfl) (by kernel_rfl) ?_
        refine GW.call0 (eqv (.bool true)) rfl trivial rfl Try.func6 (by kernel_rfl) (by kernel_rfl) (eqv_lasts _)  (fun w' hg => ?_) ?_
        · exact awake_any w'
        refine GW.mv rfl trivial (.inl rfl) (kn (t := 52) (j := 0) (by kernel_rfl)) (eqv_lasts _) ?_
        refine GW.mv rfl ⟨53, by kernel_rfl, by kernel_rfl, fun _ _ h => h⟩ (.inl rfl) (kn0' (t := 0) (c := .slice A1 (t.length + 1) c1) (by kernel_rfl) rfl (isB_lasts _) (⟨A1, c1, rfl, hc1, hm1, (hr1.below hg1).more hg1.size⟩)) (isB_lasts _) ?_
        refine GW.lenB (o :: t) rfl ⟨53, by kernel_rfl, by kernel_rfl, fun _ _ h => h⟩ rfl Try.underlying22 (kn (t := 54) (j := 2) (by kernel_rfl)) ?_
        refine GW.bin (.bool false) rfl ⟨53, by kernel_rfl, by kernel_rfl, fun _ _ h => h⟩ rfl (kn (t := 55) (j := 3) (by kernel_rfl)) knc (fun w' => by rw [show (Value.bool false) = .bool (((((o :: t).length : Nat) : Int)) == 0) by rw [len_ne]]; exact run_eql_int' _ _ _ _ _ w') ?_
        refine GW.mv rfl ⟨53, by kernel_rfl, by kernel_rfl, fun _ _ h => h⟩ (.inl rfl) (kn (t := 56) (j := 4) (by kernel_rfl)) (eqv_lasts _) ?_
        refine GW.mv rfl ⟨57, by kernel_rfl, by kernel_rfl, fun _ _ h => h⟩ (.inl rfl) (kn0 (t := 7) (c := .int .u32 (n32 (of (o :: t)))) (by kernel_rfl) rfl) (eqv_lasts _) ?_
        refine GW.mv rfl ⟨57, by kernel_rfl, by kernel_rfl, fun _ _ h => h⟩ (.inl rfl) (kn0' (t := 0) (c := .slice A1 (t.length + 1) c1) (by kernel_rfl) rfl (isB_lasts _) (⟨A1, c1, rfl, hc1, hm1, (hr1.below hg1).more hg1.size⟩)) (isB_lasts _) ?_
        refine GW.lenB (o :: t) rfl ⟨57, by kernel_rfl, by kernel_rfl, fun _ _ h => h⟩ rfl Try.underlying22 (kn (t := 59) (j := 7) (by kernel_rfl)) ?_
        refine GW.mv rfl ⟨57, by kernel_rfl, by kernel_rfl, fun _ _ h => h⟩ (.inl rfl) (kn0' (t := 0) (c := .slice A1 (t.length + 1) c1) (by kernel_rfl) rfl (isB_lasts _) (⟨A1, c1, rfl, hc1, hm1, (hr1.below hg1).more hg1.size⟩)) (isB_lasts _) ?_
        refine GW.idxB (o :: t) 0 (by simp) rfl ⟨57, by kernel_rfl, by kernel_rfl, fun _ _ h => h⟩ rfl Try.underlying22 hi0 hz1 (kn (t := 61) (j := 9) (by kernel_rfl)) (knc (c := .int .i64 ((0 : Nat) : Int))) ?_
        refine GW.ldP ((n8 o)) rfl ⟨57, by kernel_rfl, by kernel_rfl, fun _ _ h => h⟩ rfl Try.underlying5 (kn (t := 62) (j := 10) (by kernel_rfl)) ?_
        refine GW.mv rfl ⟨57, by kernel_rfl, by kernel_rfl, fun _ _ h => h⟩ (.inl rfl) (kn0 (t := 2) (c := .int .u8 (n8 b)) (by kernel_rfl) rfl) (eqv_lasts _) ?_
        refine GW.call4 (eqv (.int .u32 (n32 (of (t ++ [b]))))) rfl ⟨57, by kernel_rfl, by kernel_rfl, fun _ _ h => h⟩ rfl Try.func11 (by kernel_rfl) (by kernel_rfl) (eqv_lasts _) (kn (t := 58) (j := 6) (by kernel_rfl)) (kn (t := 60) (j := 8) (by kernel_rfl)) (kn (t := 63) (j := 11) (by kernel_rfl)) (kn (t := 64) (j := 12) (by kernel_rfl)) (fun v u s r w' hg hv hu hs' hr' => ?_) ?_
        · obtain rfl : v = _ := hv
          obtain rfl : u = _ := hu
          obtain rfl : s = _ := hs'
          obtain rfl : r = _ := hr'
          refine (roll_any (of (o :: t)) (o :: t).length o b w' (by omega)).mono ?_
          rintro e w2 ⟨rfl, rfl⟩
          exact ⟨_, rfl, by rw [List.length_cons, roll_of]; rfl, Gr.refl _⟩
        refine GW.mv rfl ⟨57, by kernel_rfl, by kernel_rfl, fun _ _ h => h⟩ (.inl rfl) (kn0' (t := 0) (c := .slice A1 (t.length + 1) c1) (by kernel_rfl) rfl (isB_lasts _) (⟨A1, c1, rfl, hc1, hm1, (hr1.below hg1).more hg1.size⟩)) (isB_lasts _) ?_
        refine GW.slo (o :: t) .i64 1 rfl ⟨57, by kernel_rfl, by kernel_rfl, fun _ _ h => h⟩ rfl Try.underlying22 hi0 hz1 (kn (t := 66) (j := 14) (by kernel_rfl)) knc (by simp) ?_
        refine GW.bs (t) rfl ⟨57, by kernel_rfl, by kernel_rfl, fun _ _ h => h⟩ rfl Try.underlying22 byteType.1 Try.underlying9 (kn (t := 67) (j := 15) (by kernel_rfl)) ?_
        refine GW.mv rfl ⟨57, by kernel_rfl, by kernel_rfl, fun _ _ h => h⟩ (.inl rfl) (kn0 (t := 2) (c := .int .u8 (n8 b)) (by kernel_rfl) rfl) (eqv_lasts _) ?_
        refine GW.byte1 (b) rfl ⟨57, by kernel_rfl, by kernel_rfl, fun _ _ h => h⟩ rfl Try.underlying22 hi0 hz1 hz0 (kn (t := 69) (j := 17) (by kernel_rfl)) ?_
        refine GW.bs ([b]) rfl ⟨57, by kernel_rfl, by kernel_rfl, fun _ _ h => h⟩ rfl Try.underlying22 byteType.1 Try.underlying9 (kn (t := 70) (j := 18) (by kernel_rfl)) ?_
        refine GW.cat (t) ([b]) (by (try simp); omega) rfl ⟨57, by kernel_rfl, by kernel_rfl, fun _ _ h => h⟩ rfl (kn (t := 68) (j := 16) (by kernel_rfl)) (kn (t := 71) (j := 19) (by kernel_rfl)) ?_
        refine GW.call1 (eqv (.int .u32 (n32 (of (t ++ [b]))))) rfl ⟨57, by kernel_rfl, by kernel_rfl, fun _ _ h => h⟩ rfl Try.func8 (by kernel_rfl) (by kernel_rfl) (eqv_lasts _) (kn (t := 72) (j := 20) (by kernel_rfl)) (fun v w' hg hv => ?_) ?_
        · obtain rfl : v = _ := hv
          refine (refOf_any (t ++ [b]) w' (by (try simp); omega)).mono ?_
          rintro e w2 ⟨rfl, rfl⟩
          exact ⟨_, rfl, rfl, Gr.refl _⟩
        refine GW.bin (.bool true) rfl ⟨57, by kernel_rfl, by kernel_rfl, fun _ _ h => h⟩ rfl (kn (t := 65) (j := 13) (by kernel_rfl)) (kn (t := 73) (j := 21) (by kernel_rfl)) (fun w' => run_eql_int rfl _ _ _ w') ?_
        refine GW.pick (b := false) rfl ⟨53, by kernel_rfl, by kernel_rfl, fun _ _ h => h⟩ rfl (kn (t := 57) (j := 5) (by kernel_rfl)) (kn (t := 74) (j := 22) (by kernel_rfl)) (eqv_lasts _) ?_
        refine GW.pick (b := true) rfl trivial rfl (kn (t := 53) (j := 1) (by kernel_rfl)) (kn (t := 75) (j := 23) (by kernel_rfl)) (eqv_lasts _) ?_
        refine GW.mv rfl trivial (.inr rfl) (kn (t := 76) (j := 24) (by kernel_rfl)) (eqv_lasts _) ?_
        refine GW.done (by simp) (fun w' hg => ?_)
        intro v0 _ v1 _ v2 _ v3 _ v4 _ v5 _ v6 _ v7 _ v8 _ v9 _ v10 _ v11 _ v12 _ v13 _ v14 _ v15 _ v16 _ v17 _ v18 _ v19 _ v20 _ v21 _ v22 _ v23 _ v24 _ v25 h25
        obtain rfl : v25 = (.bool true) := h25
        simp only [GFin, Act.put, List.setIfInBounds_toArray, List.set_cons_succ, List.set_cons_zero]
        have hg2 : Gr w w' := hg1.trans hg
        clear hr1 hr2 hg1 hg
        go_wp2
        go_ret
        exact ⟨_, rfl, rfl, hg2⟩
    · have h2' : 400 < l2.length := by omega
      clear hr1 hr2 hm1 hm2 hc1 hc2 h2
      have haw := Lib.hid (awake_any w)
      go_enter Try.func3, Try.ntmps3
      go_wp2_with (go_at_call 6; refine haw.out.mono ?_; rintro e w' ⟨v, rfl, hv, hg⟩; obtain rfl : v = .bool true := hv)
      go_ret
      exact ⟨_, rfl, rfl, hg⟩
  · have h1' : 400 < l1.length := by omega
    clear hr1 hr2 hm1 hm2 hc1 hc2 h1
    have haw := Lib.hid (awake_any w)
    go_enter Try.func3, Try.ntmps3
    go_wp2_with (go_at_call 6; refine haw.out.mono ?_; rintro e w' ⟨v, rfl, hv, hg⟩; obtain rfl : v = .bool true := hv)
    go_ret
    exact ⟨_, rfl, rfl, hg⟩
end Roll
end Go.Proofs.Ytadghiefddjbbaa
