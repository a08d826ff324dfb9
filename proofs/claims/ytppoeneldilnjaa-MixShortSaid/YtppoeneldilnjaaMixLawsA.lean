/- The walk of MixShort: whatever the arguments, it returns true and writes nothing that was there. No condition. -/
import Derived.Test.YtppoeneldilnjaaMixAwake
set_option linter.unusedVariables false
set_option linter.unusedSimpArgs false
namespace Go.Proofs.Ytppoeneldilnjaa
open Go Go.RowKit W
namespace Mix
theorem run_eql_sum (s t : St) (x y : Operand) (w : World) : (do eqGuard .eql 26 x y (sumV s) (sumV t); binOp .eql 26 (sumV s) (sumV t) : Sem Value).run Try.prog w = .ok (.bool (s == t)) w := by
  have e : (s == t) = (s.1 == t.1 && s.2 == t.2) := rfl
  rw [e]
  by_cases h1 : s.1 = t.1 <;> by_cases h2 : s.2 = t.2 <;> simp [go_sem, h1, h2]
set_option maxHeartbeats 1000000 in
theorem mixShort_walk (A1 : Option Addr) (c1 : Nat) (l1 : List UInt8) (A2 : Option Addr) (c2 : Nat) (l2 : List UInt8) (w : World)
    (hc1 : l1.length ≤ c1) (hm1 : c1 ≤ maxLen) (hr1 : RB w w.heap.size A1 l1) (hc2 : l2.length ≤ c2) (hm2 : c2 ≤ maxLen) (hr2 : RB w w.heap.size A2 l2) :
    Calls Try.prog 3 #[.slice A1 l1.length c1, .slice A2 l2.length c2] w (Ret (eqv (.bool true)) w) := by
  by_cases h : 1 ≤ l1.length ∧ l1.length ≤ 8 ∧ l2.length = l1.length
  · obtain ⟨h1, h2, h3⟩ := h
    have h1' : ¬ l1.length < 1 := by omega
    have hq : (of l1 == of l2) = (l1 == l2) := by
      rw [Bool.eq_iff_iff, beq_iff_eq, beq_iff_eq]
      exact ⟨fun h => of_short_inj h1 h2 h3.symm h, fun h => by rw [h]⟩
    have hqh := Lib.hid hq
    have hr1' := Lib.hid hr1
    have hr2' := Lib.hid hr2
    clear hr1 hr2 hq
    go_enter Try.func3, Try.ntmps3
    go_wp2
    have hr1 := hr1'.out
    have hr2 := hr2'.out
    have hq := hqh.out
    refine region_grow (by kernel_rfl) (by kernel_rfl) ?_
    refine GW.call0 (eqv (.bool true)) rfl trivial rfl Try.func8 (by kernel_rfl) (by kernel_rfl) (eqv_lasts _)  (fun w' hg => ?_) ?_
    · exact awake_any w'
    refine GW.mv rfl trivial (.inl rfl) (kn (t := 21) (j := 0) (by kernel_rfl)) (eqv_lasts _) ?_
    refine GW.mv rfl ⟨22, by kernel_rfl, by kernel_rfl, fun _ _ h => h⟩ (.inl rfl) (kn0' (t := 0) (c := .slice A1 l1.length c1) (by kernel_rfl) rfl (isB_lasts l1) (⟨A1, c1, rfl, hc1, hm1, hr1⟩)) (isB_lasts l1) ?_
    refine GW.call1 (eqv (sumV (of l1))) rfl ⟨22, by kernel_rfl, by kernel_rfl, fun _ _ h => h⟩ rfl Try.func9 (by kernel_rfl) (by kernel_rfl) (eqv_lasts _) (kn (t := 23) (j := 2) (by kernel_rfl)) (fun v w' hg hv => ?_) ?_
    · obtain ⟨A, c, rfl, hc, _, hr⟩ := hv
      refine (of_any A c l1 w' (by omega) hc hr).mono ?_
      rintro e w2 ⟨rfl, hg2⟩
      exact ⟨_, rfl, rfl, hg2⟩
    refine GW.mv rfl ⟨22, by kernel_rfl, by kernel_rfl, fun _ _ h => h⟩ (.inl rfl) (kn0' (t := 1) (c := .slice A2 l1.length c2) (by kernel_rfl) rfl (isB_lasts l2) (⟨A2, c2, by rw [h3], hc2, hm2, hr2⟩)) (isB_lasts l2) ?_
    refine GW.call1 (eqv (sumV (of l2))) rfl ⟨22, by kernel_rfl, by kernel_rfl, fun _ _ h => h⟩ rfl Try.func9 (by kernel_rfl) (by kernel_rfl) (eqv_lasts _) (kn (t := 25) (j := 4) (by kernel_rfl)) (fun v w' hg hv => ?_) ?_
    · obtain ⟨A, c, rfl, hc, _, hr⟩ := hv
      refine (of_any A c l2 w' (by omega) hc hr).mono ?_
      rintro e w2 ⟨rfl, hg2⟩
      exact ⟨_, rfl, rfl, hg2⟩
    refine GW.bin (.bool (of l1 == of l2)) rfl ⟨22, by kernel_rfl, by kernel_rfl, fun _ _ h => h⟩ rfl (kn (t := 24) (j := 3) (by kernel_rfl)) (kn (t := 26) (j := 5) (by kernel_rfl)) (fun w' => run_eql_sum _ _ _ _ w') ?_
    refine GW.mv rfl ⟨22, by kernel_rfl, by kernel_rfl, fun _ _ h => h⟩ (.inl rfl) (kn0' (t := 0) (c := .slice A1 l1.length c1) (by kernel_rfl) rfl (isB_lasts l1) (⟨A1, c1, rfl, hc1, hm1, hr1⟩)) (isB_lasts l1) ?_
    refine GW.bs (l1) rfl ⟨22, by kernel_rfl, by kernel_rfl, fun _ _ h => h⟩ rfl Try.underlying22 byteType.1 Try.underlying9 (kn (t := 28) (j := 7) (by kernel_rfl)) ?_
    refine GW.mv rfl ⟨22, by kernel_rfl, by kernel_rfl, fun _ _ h => h⟩ (.inl rfl) (kn0' (t := 1) (c := .slice A2 l1.length c2) (by kernel_rfl) rfl (isB_lasts l2) (⟨A2, c2, by rw [h3], hc2, hm2, hr2⟩)) (isB_lasts l2) ?_
    refine GW.bs (l2) rfl ⟨22, by kernel_rfl, by kernel_rfl, fun _ _ h => h⟩ rfl Try.underlying22 byteType.1 Try.underlying9 (kn (t := 30) (j := 9) (by kernel_rfl)) ?_
    refine GW.bin (.bool (l1 == l2)) rfl ⟨22, by kernel_rfl, by kernel_rfl, fun _ _ h => h⟩ rfl (kn (t := 29) (j := 8) (by kernel_rfl)) (kn (t := 31) (j := 10) (by kernel_rfl)) (fun w' => run_eql_str' _ _ _ _ _ w') ?_
    refine GW.bin (.bool true) rfl ⟨22, by kernel_rfl, by kernel_rfl, fun _ _ h => h⟩ rfl (kn (t := 27) (j := 6) (by kernel_rfl)) (kn (t := 32) (j := 11) (by kernel_rfl)) (fun w' => by rw [hq]; simp [go_sem]) ?_
    refine GW.pick (b := true) rfl trivial rfl (kn (t := 22) (j := 1) (by kernel_rfl)) (kn (t := 33) (j := 12) (by kernel_rfl)) (eqv_lasts _) ?_
    refine GW.mv rfl trivial (.inr rfl) (kn (t := 34) (j := 13) (by kernel_rfl)) (eqv_lasts _) ?_
    refine GW.done (by simp) (by kernel_rfl) (fun w' hg => ?_)
    intro v0 _ v1 _ v2 _ v3 _ v4 _ v5 _ v6 _ v7 _ v8 _ v9 _ v10 _ v11 _ v12 _ v13 _ v14 h14
    obtain rfl : v14 = (.bool true) := h14
    simp only [GFin, Act.put, List.setIfInBounds_toArray, List.set_cons_succ, List.set_cons_zero]
    clear hr1 hr2 hq
    go_wp2
    go_ret
    exact ⟨_, rfl, rfl, hg⟩
  · have haw := Lib.hid (awake_any w)
    have hm1' := hm1
    have hm2' := hm2
    unfold maxLen at hm1' hm2'
    clear hr1 hr2 hm1 hm2
    by_cases h1 : l1.length < 1
    · go_enter Try.func3, Try.ntmps3
      go_wp2_with (go_at_call 8; refine haw.out.mono ?_; rintro e w' ⟨v, rfl, hv, hg⟩; obtain rfl : v = .bool true := hv)
      go_ret
      exact ⟨_, rfl, rfl, hg⟩
    · by_cases h2 : 8 < l1.length
      · go_enter Try.func3, Try.ntmps3
        go_wp2_with (go_at_call 8; refine haw.out.mono ?_; rintro e w' ⟨v, rfl, hv, hg⟩; obtain rfl : v = .bool true := hv)
        go_ret
        exact ⟨_, rfl, rfl, hg⟩
      · have h3 : ¬ l2.length = l1.length := by omega
        have h3i : ¬ ((l2.length : Int) = (l1.length : Int)) := by omega
        have h3b : ((l2.length : Int) != (l1.length : Int)) = true := by simpa using h3i
        have h3c : (l2.length != l1.length) = true := by simpa using h3
        go_enter Try.func3, Try.ntmps3
        go_wp2_with (go_at_call 8; refine haw.out.mono ?_; rintro e w' ⟨v, rfl, hv, hg⟩; obtain rfl : v = .bool true := hv)
        go_ret
        exact ⟨_, rfl, rfl, hg⟩
end Mix
end Go.Proofs.Ytppoeneldilnjaa
