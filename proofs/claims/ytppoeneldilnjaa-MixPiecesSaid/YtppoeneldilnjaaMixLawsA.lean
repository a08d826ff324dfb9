/- The walk of MixShort: whatever the arguments, it returns true and writes nothing that was there. No condition. -/
import Derived.Test.YtppoeneldilnjaaMixAwake
set_option linter.unusedVariables false
set_option linter.unusedSimpArgs false
namespace Go.Proofs.Ytppoeneldilnjaa
open Go Go.RowKit W
namespace Mix
theorem run_eql_sum (s t : St) (x y : Operand) (w : World) : (do eqGuard .eql 26 x y (sumV s) (sumV t); binOp .eql 26 (sumV s) (sumV t) : Sem Value).run Try.prog w = .ok (.bool (s == t)) w := by
  have e : (s == t) = (s.1 == t.1 && s.2 == t.2) := rfl
  rw [e]
  by_cases h1 : s.1 = t.1 <;> by_cases h2 : s.2 = t.2 <;> simp [go_sem, h1, h2]
set_option maxHeartbeats 1000000 in
theorem mixShort_walk (A1 : Option Addr) (c1 : Nat) (l1 : List UInt8) (A2 : Option Addr) (c2 : Nat) (l2 : List UInt8) (w : World)
    (hc1 : l1.length ≤ c1) (hm1 : c1 ≤ maxLen) (hr1 : RB w w.heap.size A1 l1) (hc2 : l2.length ≤ c2) (hm2 : c2 ≤ maxLen) (hr2 : RB w w.heap.size A2 l2) :
    Calls Try.prog 3 #[.slice A1 l1.length c1, .slice A2 l2.length c2] w (Ret (eqv (.bool true)) w) := by
  by_cases h : 1 ≤ l1.length ∧ l1.length ≤ 8 ∧ l2.length = l1.length
  · obtain ⟨h1, h2, h3⟩ := h
    have h1' : ¬ l1.length < 1 := by omega
    have hq : (of l1 == of l2) = (l1 == l2) := by
      rw [Bool.eq_iff_iff, beq_iff_eq, beq_iff_eq]
      exact ⟨fun h => of_short_inj h1 h2 h3.symm h, fun h => by rw [h]⟩
    have hqh := Lib.hid hq
    have hr1' := Lib.hid hr1
    have hr2' := Lib.hid hr2
    clear hr1 hr2 hq
    go_enter Try.func3, Try.ntmps3
    go_wp2
    have hr1 := hr1'.out
    have hr2 := hr2'.out
    have hq := hqh.out
    refine region_grow (by kernel_rfl) (by kernel_rfl) ?_
    refine GW.call0 (eqv (.bool true)) rfl trivial rfl Try.func8 (by kernel_rfl) (by kernel_rfl) (eqv_lasts _)  (fun w' hg => ?_) ?_
    · exact awake_any w'
    refine GW.mv rfl trivial (.inl rfl) (kn (t := 21) (j := 0) (by kernel_rfl)) (eqv_lasts _) ?_
    refine GW.mv rfl ⟨22, by kernel_rfl, by kernel_rfl, fun _ _ h => h⟩ (.inl rfl) (kn0' (t := 0) (c := .slice A1 l1.length c1) (by kernel_rfl) rfl (isB_lasts l1) (⟨A1, c1, rfl, hc1, hm1, hr1⟩)) (isB_lasts l1) ?_
    refine GW.call1 (eqv (sumV (of l1))) rfl ⟨22, by kernel_rfl, by kernel_rfl, fun _ _ h => h⟩ rfl Try.func9 (by kernel_rfl) (by kernel_rfl) (eqv_lasts _) (kn (t := 23) (j := 2) (by kernel_rfl)) (fun v w' hg hv => ?_) ?_
    · obtain ⟨A, c, rfl, hc, _, hr⟩ := hv
      refine (of_any A c l1 w' (by omega) hc hr).mono ?_
      rintro e w2 ⟨rfl, hg2⟩
      exact ⟨_, rfl, rfl, hg2⟩
    refine GW.mv rfl ⟨22, by kernel_rfl, by kernel_rfl, fun _ _ h => h⟩ (.inl rfl) (kn0' (t := 1) (c := .slice A2 l1.length c2) (by kernel_rfl) rfl (isB_lasts l2) (⟨A2, c2, by rw [h3], hc2, hm2, hr2⟩)) (isB_lasts l2) ?_
    refine GW.call1 (eqv (sumV (of l2))) rfl ⟨22, by kernel_rfl, by kernel_rfl, fun _ _ h => h⟩ rfl Try.func9 (by kernel_rfl) (by kernel_rfl) (eqv_lasts _) (kn (t := 25) (j := 4) (by kernel_rfl)) (fun v w' hg hv => ?_) ?_
    · obtain ⟨A, c, rfl, hc, _, hr⟩ := hv
      refine (of_any A c l2 w' (by omega) hc hr).mono ?_
      rintro e w2 ⟨rfl, hg2⟩
      exact ⟨_, rfl, rfl, hg2⟩
    refine GW.bin (.bool (of l1 == of l2)) rfl ⟨22, by kernel_rfl, by kernel_rfl, fun _ _ h => h⟩ rfl (kn (t := 24) (j := 3) (by kernel_rfl)) (kn (t := 26) (j := 5) (by kernel_rfl)) (fun w' => run_eql_sum _ _ _ _ w') ?_
    refine GW.mv rfl ⟨22, by kernel_rfl, by kernel_rfl, fun _ _ h => h⟩ (.inl rfl) (kn0' (t := 0) (c := .slice A1 l1.length c1) (by kernel_rfl) rfl (isB_lasts l1) (⟨A1, c1, rfl, hc1, hm1, hr1⟩)) (isB_lasts l1) ?_
    refine GW.bs (l1) rfl ⟨22, by kernel_rfl, by kernel_rfl, fun _ _ h => h⟩ rfl Try.underlying22 byteType.1 Try.underlying9 (kn (t := 28) (j := 7) (by kernel_rfl)) ?_
    refine GW.mv rfl ⟨22, by kernel_rfl, by kernel_rfl, fun _ _ h => h⟩ (.inl rfl) (kn0' (t := 1) (c := .slice A2 l1.length c2) (by kernel_rfl) rfl (isB_lasts l2) (⟨A2, c2, by rw [h3], hc2, hm2, hr2⟩)) (isB_lasts l2) ?_
    refine GW.bs (l2) rfl ⟨22, by kernel_rfl, by kernel_rfl, fun _ _ h => h⟩ rfl Try.underlying22 byteType.1 Try.underlying9 (kn (t := 30) (j := 9) (by kernel_rfl)) ?_
    refine GW.bin (.bool (l1 == l2)) rfl ⟨22, by kernel_rfl, by kernel_rfl, fun _ _ h => h⟩ rfl (kn (t := 29) (j := 8) (by kernel_rfl)) (kn (t := 31) (j := 10) (by kernel_rfl)) (fun w' => run_eql_str' _ _ _ _ _ w') ?_
    refine GW.bin (.bool true) rfl ⟨22, by kernel_rfl, by kernel_rfl, fun _ _ h => h⟩ rfl (kn (t := 27) (j := 6) (by kernel_rfl)) (kn (t := 32) (j := 11) (by kernel_rfl)) (fun w' => by rw [hq]; simp [go_sem]) ?_
    refine GW.pick (b := true) rfl trivial rfl (kn (t := 22) (j := 1) (by kernel_rfl)) (kn (t := 33) (j := 12) (by kernel_rfl)) (eqv_lasts _) ?_
    refine GW.mv rfl trivial (.inr rfl) (kn (t := 34) (j := 13) (by kernel_rfl)) (eqv_lasts _) ?_
    refine GW.done (by simp) (by kernel_rfl) (fun w' hg => ?_)
    intro v0 _ v1 _ v2 _ v3 _ v4 _ v5 _ v6 _ v7 _ v8 _ v9 _ v10 _ v11 _ v12 _ v13 _ v14 h14
    obtain rfl : v14 = (.bool true) := h14
    simp only [GFin, Act.put, List.setIfInBounds_toArray, List.set_cons_succ, List.set_cons_zero]
    clear hr1 hr2 hq
    go_wp2
    go_ret
    exact ⟨_, rfl, rfl, hg⟩
  · have haw := Lib.hid (awake_any w)
    have hm1' := hm1
    have hm2' := hm2
    unfold maxLen at hm1' hm2'
    clear hr1 hr2 hm1 hm2
    by_cases h1 : l1.length < 1
    · go_enter Try.func3, Try.ntmps3
      go_wp2_with (go_at_call 8; refine haw.out.mono ?_; rintro e w' ⟨v, rfl, hv, hg⟩; obtain rfl : v = .bool true := hv)
      go_ret
      exact ⟨_, rfl, rfl, hg⟩
    · by_cases h2 : 8 < l1.length
      · go_enter Try.func3, Try.ntmps3
        go_wp2_with (go_at_call 8; refine haw.out.mono ?_; rintro e w' ⟨v, rfl, hv, hg⟩; obtain rfl : v = .bool true := hv)
        go_ret
        exact ⟨_, rfl, rfl, hg⟩
      · have h3 : ¬ l2.length = l1.length := by omega
        have h3i : ¬ ((l2.length : Int) = (l1.length : Int)) := by omega
        have h3b : ((l2.length : Int) != (l1.length : Int)) = true := by simpa using h3i
        have h3c : (l2.length != l1.length) = true := by simpa using h3
        go_enter Try.func3, Try.ntmps3
        go_wp2_with (go_at_call 8; refine haw.out.mono ?_; rintro e w' ⟨v, rfl, hv, hg⟩; obtain rfl : v = .bool true := hv)
        go_ret
        exact ⟨_, rfl, rfl, hg⟩
theorem run_neq_sum {s t : St} (h : s = t) (x y : Operand) (w : World) : (do eqGuard .neq 26 x y (sumV s) (sumV t); binOp .neq 26 (sumV s) (sumV t) : Sem Value).run Try.prog w = .ok (.bool false) w := by
  subst h
  simp [go_sem]
theorem rounds_word (s : St) (v x : UInt64) : (round s v == round s x) = (v == x) := by
  rw [Bool.eq_iff_iff, beq_iff_eq, beq_iff_eq]
  exact ⟨fun h => round_word h, fun h => by rw [h]⟩
theorem rounds_state (s t : St) (x : UInt64) : (round t x == round s x) = (s == t) := by
  rw [Bool.eq_iff_iff, beq_iff_eq, beq_iff_eq]
  exact ⟨fun h => (round_inj h).symm, fun h => by rw [h]⟩
set_option maxHeartbeats 2000000 in
theorem mixRounds_walk (s t : St) (v x : UInt64) (w : World) :
    Calls Try.prog 6 #[sumV s, sumV t, .agg #[.int .u64 (n64 v), .int .u64 (n64 x)]] w (Ret (eqv (.bool true)) w) := by
  obtain ⟨w1, hw1⟩ : ∃ w1, w1 = ((w.alloc (.cells #[.int .u64 (n64 s.1), .int .u64 (n64 s.2)] 26)).alloc (.cells #[.int .u64 (n64 t.1), .int .u64 (n64 t.2)] 26)).alloc (.cells #[.int .u64 (n64 v), .int .u64 (n64 x)] 43) := ⟨_, rfl⟩
  have hb0 := ((Blk.new w 26 #[.int .u64 (n64 s.1), .int .u64 (n64 s.2)]).alloc (.cells #[.int .u64 (n64 t.1), .int .u64 (n64 t.2)] 26)).alloc (.cells #[.int .u64 (n64 v), .int .u64 (n64 x)] 43)
  have hb1 := (Blk.new (w.alloc (.cells #[.int .u64 (n64 s.1), .int .u64 (n64 s.2)] 26)) 26 #[.int .u64 (n64 t.1), .int .u64 (n64 t.2)]).alloc (.cells #[.int .u64 (n64 v), .int .u64 (n64 x)] 43)
  rw [World.size_alloc] at hb1
  have hg1 : Gr w (((w.alloc (.cells #[.int .u64 (n64 s.1), .int .u64 (n64 s.2)] 26)).alloc (.cells #[.int .u64 (n64 t.1), .int .u64 (n64 t.2)] 26)).alloc (.cells #[.int .u64 (n64 v), .int .u64 (n64 x)] 43)) := (((Gr.refl w).alloc _).alloc _).alloc _
  rw [← hw1] at hb0 hb1 hg1
  have hrd := Lib.hid (round_any s x w1.drew)
  replace hw1 := Lib.hid hw1
  replace hb0 := Lib.hid hb0
  replace hb1 := Lib.hid hb1
  replace hg1 := Lib.hid hg1
  go_enter Try.func6, Try.ntmps6
  go_wp2_with fail
  go_region
  go_wp2_with fail
  rw [← hw1.out]
  refine hrd.out.mono ?_
  rintro e w2 ⟨rfl, hg2⟩
  have hk0 := hb0.out.drew.below hg2 hb0.out.drew.lt
  have hk1 := hb1.out.drew.below hg2 hb1.out.drew.lt
  have hgw : Gr w w2 := (Gr.drew hg1.out).trans hg2
  have hx := Blk.new w2 26 #[.int .u64 (n64 (round s x).1), .int .u64 (n64 (round s x).2)]
  have hk0' := hk0.alloc (.cells #[.int .u64 (n64 (round s x).1), .int .u64 (n64 (round s x).2)] 26)
  have hk1' := hk1.alloc (.cells #[.int .u64 (n64 (round s x).1), .int .u64 (n64 (round s x).2)] 26)
  have hgx := hgw.alloc (.cells #[.int .u64 (n64 (round s x).1), .int .u64 (n64 (round s x).2)] 26)
  clear hrd hb0 hb1 hg1 hw1 hk0 hk1 hg2 hgw
  replace hx := Lib.hid hx
  replace hk0' := Lib.hid hk0'
  replace hk1' := Lib.hid hk1'
  replace hgx := Lib.hid hgx
  go_wp2_with fail
  have hsz : w.heap.size + 1 < (w2.alloc (.cells #[.int .u64 (n64 (round s x).1), .int .u64 (n64 (round s x).2)] 26)).heap.size ∧ w2.heap.size < (w2.alloc (.cells #[.int .u64 (n64 (round s x).1), .int .u64 (n64 (round s x).2)] 26)).heap.size := ⟨hk1'.out.lt, hx.out.lt⟩
  have x0 := hx.out.cell 0
  have x1 := hx.out.cell 1
  have s0 := hk0'.out.cell 0
  have s1 := hk0'.out.cell 1
  have t0 := hk1'.out.cell 0
  have t1 := hk1'.out.cell 1
  have hgx := hgx.out
  clear hx hk0' hk1'
  generalize (w2.alloc (.cells #[.int .u64 (n64 (round s x).1), .int .u64 (n64 (round s x).2)] 26)) = w3 at *
  generalize w2.heap.size = bx at *
  refine region_grow (by kernel_rfl) (by kernel_rfl) ?_
  refine GW.p1 (sumV (round s x)) rfl trivial (kn0 (t := 9) (c := .pointer (some ⟨bx, 0, none⟩)) (by kernel_rfl) rfl) (fun ρ w' hρ hg => by have h0 := (hg.cell (p := ⟨bx, 0, none⟩) (by have := hsz; show bx < _; omega)).trans x0; have h1 := (hg.cell (p := ⟨bx, 1, none⟩) (by have := hsz; show bx < _; omega)).trans x1; simp [execOp, hρ, go_sem, h0, h1]) ?_
  refine GW.p1 (sumV s) rfl trivial (kn0 (t := 3) (c := .pointer (some ⟨w.heap.size, 0, none⟩)) (by kernel_rfl) rfl) (fun ρ w' hρ hg => by have h0 := (hg.cell (p := ⟨w.heap.size, 0, none⟩) (by have := hsz; show w.heap.size < _; omega)).trans s0; have h1 := (hg.cell (p := ⟨w.heap.size, 1, none⟩) (by have := hsz; show w.heap.size < _; omega)).trans s1; simp [execOp, hρ, go_sem, h0, h1]) ?_
  refine GW.mv rfl trivial (.inl rfl) (kn0 (t := 8) (c := .int .u64 (n64 x)) (by kernel_rfl) rfl) (eqv_lasts _) ?_
  refine GW.call2 (eqv (sumV (round s x))) rfl trivial rfl Try.func17 (by kernel_rfl) (by kernel_rfl) (eqv_lasts _) (kn (t := 18) (j := 1) (by kernel_rfl)) (kn (t := 19) (j := 2) (by kernel_rfl)) (fun v u w' hg hv hu => ?_) ?_
  · obtain rfl : v = _ := hv
    obtain rfl : u = _ := hu
    refine (refRound_any s x w').mono ?_
    rintro e w2 ⟨rfl, hg2⟩
    exact ⟨_, rfl, rfl, hg2⟩
  refine GW.bin (.bool false) rfl trivial rfl (kn (t := 17) (j := 0) (by kernel_rfl)) (kn (t := 20) (j := 3) (by kernel_rfl)) (fun w' => run_neq_sum rfl _ _ w') ?_
  refine GW.mv rfl trivial (.inl rfl) (kn (t := 21) (j := 4) (by kernel_rfl)) (eqv_lasts _) ?_
  refine GW.p1 (sumV (round s x)) rfl ⟨22, by kernel_rfl, by kernel_rfl, fun _ _ h => h⟩ (kn0 (t := 9) (c := .pointer (some ⟨bx, 0, none⟩)) (by kernel_rfl) rfl) (fun ρ w' hρ hg => by have h0 := (hg.cell (p := ⟨bx, 0, none⟩) (by have := hsz; show bx < _; omega)).trans x0; have h1 := (hg.cell (p := ⟨bx, 1, none⟩) (by have := hsz; show bx < _; omega)).trans x1; simp [execOp, hρ, go_sem, h0, h1]) ?_
  refine GW.mv rfl ⟨22, by kernel_rfl, by kernel_rfl, fun _ _ h => h⟩ (.inl rfl) (kn0 (t := 8) (c := .int .u64 (n64 x)) (by kernel_rfl) rfl) (eqv_lasts _) ?_
  refine GW.call2 (eqv (sumV (back (round s x) x))) rfl ⟨22, by kernel_rfl, by kernel_rfl, fun _ _ h => h⟩ rfl Try.func18 (by kernel_rfl) (by kernel_rfl) (eqv_lasts _) (kn (t := 23) (j := 6) (by kernel_rfl)) (kn (t := 24) (j := 7) (by kernel_rfl)) (fun v u w' hg hv hu => ?_) ?_
  · obtain rfl : v = _ := hv
    obtain rfl : u = _ := hu
    refine (back_any (round s x) x w').mono ?_
    rintro e w2 ⟨rfl, hg2⟩
    exact ⟨_, rfl, rfl, hg2⟩
  refine GW.p1 (sumV s) rfl ⟨22, by kernel_rfl, by kernel_rfl, fun _ _ h => h⟩ (kn0 (t := 3) (c := .pointer (some ⟨w.heap.size, 0, none⟩)) (by kernel_rfl) rfl) (fun ρ w' hρ hg => by have h0 := (hg.cell (p := ⟨w.heap.size, 0, none⟩) (by have := hsz; show w.heap.size < _; omega)).trans s0; have h1 := (hg.cell (p := ⟨w.heap.size, 1, none⟩) (by have := hsz; show w.heap.size < _; omega)).trans s1; simp [execOp, hρ, go_sem, h0, h1]) ?_
  refine GW.bin (.bool false) rfl ⟨22, by kernel_rfl, by kernel_rfl, fun _ _ h => h⟩ rfl (kn (t := 25) (j := 8) (by kernel_rfl)) (kn (t := 26) (j := 9) (by kernel_rfl)) (fun w' => run_neq_sum (back_round s x) _ _ w') ?_
  refine GW.pick (b := false) rfl trivial rfl (kn (t := 22) (j := 5) (by kernel_rfl)) (kn (t := 27) (j := 10) (by kernel_rfl)) (eqv_lasts _) ?_
  refine GW.mv rfl trivial (.inl rfl) (kn (t := 28) (j := 11) (by kernel_rfl)) (eqv_lasts _) ?_
  refine GW.p1 (sumV t) rfl ⟨29, by kernel_rfl, by kernel_rfl, fun _ _ h => h⟩ (kn0 (t := 4) (c := .pointer (some ⟨w.heap.size + 1, 0, none⟩)) (by kernel_rfl) rfl) (fun ρ w' hρ hg => by have h0 := (hg.cell (p := ⟨w.heap.size + 1, 0, none⟩) (by have := hsz; show w.heap.size + 1 < _; omega)).trans t0; have h1 := (hg.cell (p := ⟨w.heap.size + 1, 1, none⟩) (by have := hsz; show w.heap.size + 1 < _; omega)).trans t1; simp [execOp, hρ, go_sem, h0, h1]) ?_
  refine GW.mv rfl ⟨29, by kernel_rfl, by kernel_rfl, fun _ _ h => h⟩ (.inl rfl) (kn0 (t := 8) (c := .int .u64 (n64 x)) (by kernel_rfl) rfl) (eqv_lasts _) ?_
  refine GW.call2 (eqv (sumV (back t x))) rfl ⟨29, by kernel_rfl, by kernel_rfl, fun _ _ h => h⟩ rfl Try.func18 (by kernel_rfl) (by kernel_rfl) (eqv_lasts _) (kn (t := 30) (j := 13) (by kernel_rfl)) (kn (t := 31) (j := 14) (by kernel_rfl)) (fun v u w' hg hv hu => ?_) ?_
  · obtain rfl : v = _ := hv
    obtain rfl : u = _ := hu
    refine (back_any t x w').mono ?_
    rintro e w2 ⟨rfl, hg2⟩
    exact ⟨_, rfl, rfl, hg2⟩
  refine GW.mv rfl ⟨29, by kernel_rfl, by kernel_rfl, fun _ _ h => h⟩ (.inl rfl) (kn0 (t := 8) (c := .int .u64 (n64 x)) (by kernel_rfl) rfl) (eqv_lasts _) ?_
  refine GW.call2 (eqv (sumV (round (back t x) x))) rfl ⟨29, by kernel_rfl, by kernel_rfl, fun _ _ h => h⟩ rfl Try.func16 (by kernel_rfl) (by kernel_rfl) (eqv_lasts _) (kn (t := 32) (j := 15) (by kernel_rfl)) (kn (t := 33) (j := 16) (by kernel_rfl)) (fun v u w' hg hv hu => ?_) ?_
  · obtain rfl : v = _ := hv
    obtain rfl : u = _ := hu
    refine (round_any (back t x) x w').mono ?_
    rintro e w2 ⟨rfl, hg2⟩
    exact ⟨_, rfl, rfl, hg2⟩
  refine GW.p1 (sumV t) rfl ⟨29, by kernel_rfl, by kernel_rfl, fun _ _ h => h⟩ (kn0 (t := 4) (c := .pointer (some ⟨w.heap.size + 1, 0, none⟩)) (by kernel_rfl) rfl) (fun ρ w' hρ hg => by have h0 := (hg.cell (p := ⟨w.heap.size + 1, 0, none⟩) (by have := hsz; show w.heap.size + 1 < _; omega)).trans t0; have h1 := (hg.cell (p := ⟨w.heap.size + 1, 1, none⟩) (by have := hsz; show w.heap.size + 1 < _; omega)).trans t1; simp [execOp, hρ, go_sem, h0, h1]) ?_
  refine GW.bin (.bool false) rfl ⟨29, by kernel_rfl, by kernel_rfl, fun _ _ h => h⟩ rfl (kn (t := 34) (j := 17) (by kernel_rfl)) (kn (t := 35) (j := 18) (by kernel_rfl)) (fun w' => run_neq_sum (round_back t x) _ _ w') ?_
  refine GW.pick (b := false) rfl trivial rfl (kn (t := 29) (j := 12) (by kernel_rfl)) (kn (t := 36) (j := 19) (by kernel_rfl)) (eqv_lasts _) ?_
  refine GW.mv rfl trivial (.inl rfl) (kn (t := 37) (j := 20) (by kernel_rfl)) (eqv_lasts _) ?_
  refine GW.call0 (eqv (sumV start)) rfl ⟨38, by kernel_rfl, by kernel_rfl, fun _ _ h => h⟩ rfl Try.func19 (by kernel_rfl) (by kernel_rfl) (eqv_lasts _)  (fun w' hg => ?_) ?_
  · refine (start_any w').mono ?_
    rintro e w2 ⟨rfl, hg2⟩
    exact ⟨_, rfl, rfl, hg2⟩
  refine GW.call0 (eqv (sumV start)) rfl ⟨38, by kernel_rfl, by kernel_rfl, fun _ _ h => h⟩ rfl Try.func20 (by kernel_rfl) (by kernel_rfl) (eqv_lasts _)  (fun w' hg => ?_) ?_
  · refine (refStart_any w').mono ?_
    rintro e w2 ⟨rfl, hg2⟩
    exact ⟨_, rfl, rfl, hg2⟩
  refine GW.bin (.bool false) rfl ⟨38, by kernel_rfl, by kernel_rfl, fun _ _ h => h⟩ rfl (kn (t := 39) (j := 22) (by kernel_rfl)) (kn (t := 40) (j := 23) (by kernel_rfl)) (fun w' => run_neq_sum rfl _ _ w') ?_
  refine GW.pick (b := false) rfl trivial rfl (kn (t := 38) (j := 21) (by kernel_rfl)) (kn (t := 41) (j := 24) (by kernel_rfl)) (eqv_lasts _) ?_
  refine GW.done (by simp) (by kernel_rfl) (fun w' hg => ?_)
  intro v0 _ v1 _ v2 _ v3 _ v4 _ v5 _ v6 _ v7 _ v8 _ v9 _ v10 _ v11 _ v12 _ v13 _ v14 _ v15 _ v16 _ v17 _ v18 _ v19 _ v20 _ v21 _ v22 _ v23 _ v24 _ v25 h25
  obtain rfl : v25 = (.bool false) := h25
  simp only [GFin, Act.put, List.setIfInBounds_toArray, List.set_cons_succ, List.set_cons_zero]
  replace s0 := (hg.cell (p := ⟨w.heap.size, 0, none⟩) (by have := hsz; show w.heap.size < _; omega)).trans s0
  replace s1 := (hg.cell (p := ⟨w.heap.size, 1, none⟩) (by have := hsz; show w.heap.size < _; omega)).trans s1
  replace t0 := (hg.cell (p := ⟨w.heap.size + 1, 0, none⟩) (by have := hsz; show w.heap.size + 1 < _; omega)).trans t0
  replace t1 := (hg.cell (p := ⟨w.heap.size + 1, 1, none⟩) (by have := hsz; show w.heap.size + 1 < _; omega)).trans t1
  replace x0 := (hg.cell (p := ⟨bx, 0, none⟩) (by have := hsz; show bx < _; omega)).trans x0
  replace x1 := (hg.cell (p := ⟨bx, 1, none⟩) (by have := hsz; show bx < _; omega)).trans x1
  have hgy := hgx.trans hg
  replace hsz := And.intro (Nat.lt_of_lt_of_le hsz.1 hg.size) (Nat.lt_of_lt_of_le hsz.2 hg.size)
  have hkeep := Lib.hid (And.intro s0 (And.intro s1 (And.intro t0 (And.intro t1 (And.intro x0 (And.intro x1 (And.intro hsz hgy)))))))
  clear s0 s1 t0 t1 x0 x1 hsz hgx hgy hg
  go_wp2_with fail
  obtain ⟨s0, s1, t0, t1, x0, x1, hsz, hgy⟩ := hkeep.out
  have hq1 := rounds_word s v x
  have hq2 := rounds_state s t x
  refine region_grow (by kernel_rfl) (by kernel_rfl) ?_
  refine GW.call0 (eqv (.bool true)) rfl trivial rfl Try.func8 (by kernel_rfl) (by kernel_rfl) (eqv_lasts _)  (fun w' hg => ?_) ?_
  · exact awake_any w'
  refine GW.mv rfl trivial (.inl rfl) (kn (t := 43) (j := 0) (by kernel_rfl)) (eqv_lasts _) ?_
  refine GW.p1 (sumV s) rfl ⟨44, by kernel_rfl, by kernel_rfl, fun _ _ h => h⟩ (kn0 (t := 3) (c := .pointer (some ⟨w.heap.size, 0, none⟩)) (by kernel_rfl) rfl) (fun ρ w' hρ hg => by have h0 := (hg.cell (p := ⟨w.heap.size, 0, none⟩) (by have := hsz; show w.heap.size < _; omega)).trans s0; have h1 := (hg.cell (p := ⟨w.heap.size, 1, none⟩) (by have := hsz; show w.heap.size < _; omega)).trans s1; simp [execOp, hρ, go_sem, h0, h1]) ?_
  refine GW.mv rfl ⟨44, by kernel_rfl, by kernel_rfl, fun _ _ h => h⟩ (.inl rfl) (kn0 (t := 7) (c := .int .u64 (n64 v)) (by kernel_rfl) rfl) (eqv_lasts _) ?_
  refine GW.call2 (eqv (sumV (round s v))) rfl ⟨44, by kernel_rfl, by kernel_rfl, fun _ _ h => h⟩ rfl Try.func16 (by kernel_rfl) (by kernel_rfl) (eqv_lasts _) (kn (t := 45) (j := 2) (by kernel_rfl)) (kn (t := 46) (j := 3) (by kernel_rfl)) (fun v u w' hg hv hu => ?_) ?_
  · obtain rfl : v = _ := hv
    obtain rfl : u = _ := hu
    refine (round_any s v w').mono ?_
    rintro e w2 ⟨rfl, hg2⟩
    exact ⟨_, rfl, rfl, hg2⟩
  refine GW.p1 (sumV (round s x)) rfl ⟨44, by kernel_rfl, by kernel_rfl, fun _ _ h => h⟩ (kn0 (t := 9) (c := .pointer (some ⟨bx, 0, none⟩)) (by kernel_rfl) rfl) (fun ρ w' hρ hg => by have h0 := (hg.cell (p := ⟨bx, 0, none⟩) (by have := hsz; show bx < _; omega)).trans x0; have h1 := (hg.cell (p := ⟨bx, 1, none⟩) (by have := hsz; show bx < _; omega)).trans x1; simp [execOp, hρ, go_sem, h0, h1]) ?_
  refine GW.bin (.bool (round s v == round s x)) rfl ⟨44, by kernel_rfl, by kernel_rfl, fun _ _ h => h⟩ rfl (kn (t := 47) (j := 4) (by kernel_rfl)) (kn (t := 48) (j := 5) (by kernel_rfl)) (fun w' => run_eql_sum _ _ _ _ w') ?_
  refine GW.mv rfl ⟨44, by kernel_rfl, by kernel_rfl, fun _ _ h => h⟩ (.inl rfl) (kn0 (t := 7) (c := .int .u64 (n64 v)) (by kernel_rfl) rfl) (eqv_lasts _) ?_
  refine GW.mv rfl ⟨44, by kernel_rfl, by kernel_rfl, fun _ _ h => h⟩ (.inl rfl) (kn0 (t := 8) (c := .int .u64 (n64 x)) (by kernel_rfl) rfl) (eqv_lasts _) ?_
  refine GW.bin (.bool (v == x)) rfl ⟨44, by kernel_rfl, by kernel_rfl, fun _ _ h => h⟩ rfl (kn (t := 50) (j := 7) (by kernel_rfl)) (kn (t := 51) (j := 8) (by kernel_rfl)) (fun w' => by rw [← n64_beq]; exact run_eql_int' _ _ _ _ _ w') ?_
  refine GW.bin (.bool true) rfl ⟨44, by kernel_rfl, by kernel_rfl, fun _ _ h => h⟩ rfl (kn (t := 49) (j := 6) (by kernel_rfl)) (kn (t := 52) (j := 9) (by kernel_rfl)) (fun w' => by rw [hq1]; simp [go_sem]) ?_
  refine GW.pick (b := true) rfl trivial rfl (kn (t := 44) (j := 1) (by kernel_rfl)) (kn (t := 53) (j := 10) (by kernel_rfl)) (eqv_lasts _) ?_
  refine GW.mv rfl trivial (.inl rfl) (kn (t := 54) (j := 11) (by kernel_rfl)) (eqv_lasts _) ?_
  refine GW.p1 (sumV t) rfl ⟨55, by kernel_rfl, by kernel_rfl, fun _ _ h => h⟩ (kn0 (t := 4) (c := .pointer (some ⟨w.heap.size + 1, 0, none⟩)) (by kernel_rfl) rfl) (fun ρ w' hρ hg => by have h0 := (hg.cell (p := ⟨w.heap.size + 1, 0, none⟩) (by have := hsz; show w.heap.size + 1 < _; omega)).trans t0; have h1 := (hg.cell (p := ⟨w.heap.size + 1, 1, none⟩) (by have := hsz; show w.heap.size + 1 < _; omega)).trans t1; simp [execOp, hρ, go_sem, h0, h1]) ?_
  refine GW.mv rfl ⟨55, by kernel_rfl, by kernel_rfl, fun _ _ h => h⟩ (.inl rfl) (kn0 (t := 8) (c := .int .u64 (n64 x)) (by kernel_rfl) rfl) (eqv_lasts _) ?_
  refine GW.call2 (eqv (sumV (round t x))) rfl ⟨55, by kernel_rfl, by kernel_rfl, fun _ _ h => h⟩ rfl Try.func16 (by kernel_rfl) (by kernel_rfl) (eqv_lasts _) (kn (t := 56) (j := 13) (by kernel_rfl)) (kn (t := 57) (j := 14) (by kernel_rfl)) (fun v u w' hg hv hu => ?_) ?_
  · obtain rfl : v = _ := hv
    obtain rfl : u = _ := hu
    refine (round_any t x w').mono ?_
    rintro e w2 ⟨rfl, hg2⟩
    exact ⟨_, rfl, rfl, hg2⟩
  refine GW.p1 (sumV (round s x)) rfl ⟨55, by kernel_rfl, by kernel_rfl, fun _ _ h => h⟩ (kn0 (t := 9) (c := .pointer (some ⟨bx, 0, none⟩)) (by kernel_rfl) rfl) (fun ρ w' hρ hg => by have h0 := (hg.cell (p := ⟨bx, 0, none⟩) (by have := hsz; show bx < _; omega)).trans x0; have h1 := (hg.cell (p := ⟨bx, 1, none⟩) (by have := hsz; show bx < _; omega)).trans x1; simp [execOp, hρ, go_sem, h0, h1]) ?_
  refine GW.bin (.bool (round t x == round s x)) rfl ⟨55, by kernel_rfl, by kernel_rfl, fun _ _ h => h⟩ rfl (kn (t := 58) (j := 15) (by kernel_rfl)) (kn (t := 59) (j := 16) (by kernel_rfl)) (fun w' => run_eql_sum _ _ _ _ w') ?_
  refine GW.p1 (sumV s) rfl ⟨55, by kernel_rfl, by kernel_rfl, fun _ _ h => h⟩ (kn0 (t := 3) (c := .pointer (some ⟨w.heap.size, 0, none⟩)) (by kernel_rfl) rfl) (fun ρ w' hρ hg => by have h0 := (hg.cell (p := ⟨w.heap.size, 0, none⟩) (by have := hsz; show w.heap.size < _; omega)).trans s0; have h1 := (hg.cell (p := ⟨w.heap.size, 1, none⟩) (by have := hsz; show w.heap.size < _; omega)).trans s1; simp [execOp, hρ, go_sem, h0, h1]) ?_
  refine GW.p1 (sumV t) rfl ⟨55, by kernel_rfl, by kernel_rfl, fun _ _ h => h⟩ (kn0 (t := 4) (c := .pointer (some ⟨w.heap.size + 1, 0, none⟩)) (by kernel_rfl) rfl) (fun ρ w' hρ hg => by have h0 := (hg.cell (p := ⟨w.heap.size + 1, 0, none⟩) (by have := hsz; show w.heap.size + 1 < _; omega)).trans t0; have h1 := (hg.cell (p := ⟨w.heap.size + 1, 1, none⟩) (by have := hsz; show w.heap.size + 1 < _; omega)).trans t1; simp [execOp, hρ, go_sem, h0, h1]) ?_
  refine GW.bin (.bool (s == t)) rfl ⟨55, by kernel_rfl, by kernel_rfl, fun _ _ h => h⟩ rfl (kn (t := 61) (j := 18) (by kernel_rfl)) (kn (t := 62) (j := 19) (by kernel_rfl)) (fun w' => run_eql_sum _ _ _ _ w') ?_
  refine GW.bin (.bool true) rfl ⟨55, by kernel_rfl, by kernel_rfl, fun _ _ h => h⟩ rfl (kn (t := 60) (j := 17) (by kernel_rfl)) (kn (t := 63) (j := 20) (by kernel_rfl)) (fun w' => by rw [hq2]; simp [go_sem]) ?_
  refine GW.pick (b := true) rfl trivial rfl (kn (t := 55) (j := 12) (by kernel_rfl)) (kn (t := 64) (j := 21) (by kernel_rfl)) (eqv_lasts _) ?_
  refine GW.mv rfl trivial (.inr rfl) (kn (t := 65) (j := 22) (by kernel_rfl)) (eqv_lasts _) ?_
  refine GW.done (by simp) (by kernel_rfl) (fun w' hg => ?_)
  intro v0 _ v1 _ v2 _ v3 _ v4 _ v5 _ v6 _ v7 _ v8 _ v9 _ v10 _ v11 _ v12 _ v13 _ v14 _ v15 _ v16 _ v17 _ v18 _ v19 _ v20 _ v21 _ v22 _ v23 h23
  obtain rfl : v23 = (.bool true) := h23
  simp only [GFin, Act.put, List.setIfInBounds_toArray, List.set_cons_succ, List.set_cons_zero]
  have hgz := hgy.trans hg
  clear s0 s1 t0 t1 x0 x1 hsz hgy hg hkeep hq1 hq2
  go_wp2
  go_ret
  exact ⟨_, rfl, rfl, hgz⟩
end Mix
end Go.Proofs.Ytppoeneldilnjaa
