/- The walk of the document's Get. No condition but sizes. -/
import Derived.Test.YtgkcbhijkcbjkaaDoorFrmGet
set_option linter.unusedVariables false
set_option linter.unusedSimpArgs false
namespace Go.Proofs.YtgkcbhijkcbjkaaDoor
open Go Go.RowKit W Vint Crc
namespace Fm
theorem rdInfo {a b : Value} : (Tryd.prog.info? 57).map (·.size) = some (#[a, b] : Array Value).size := by kernel_rfl
theorem get_short (s : RS) (most : Nat) : (get s most).1.1.length ≤ s.1.length := by
  by_cases h : s.2 = 0
  · by_cases h2 : (get s most).1.2 = 0
    · obtain ⟨l, e⟩ := s
      obtain rfl : e = 0 := h
      exact Nat.le_of_lt (get_less l most h2)
    · rw [(get_stops h h2).1]; simp
  · rw [get_stuck h]; exact Nat.le_refl _
theorem refGet_most (s : RS) (w : World) (hsz : s.1.length ≤ 1099511627776) : Calls Tryd.prog 27 #[rsV s, .int .u64 18446744073709551615] w fun e w' => e = .returned (getRV (get s most64)) ∧ Gr w w' := refGet_any s 18446744073709551615 w hsz
set_option maxRecDepth 100000 in
set_option maxHeartbeats 4000000 in
theorem refGetw_any (l : List UInt8) (w : World) (hs : l.length ≤ 1000000) :
    Calls Tryd.prog 8 #[str l] w fun e w' => e = .returned (gotF (getF l)) ∧ Gr w w' := by
  have g0 := (Gr.refl w).alloc (.cells zc 30)
  have b0 := Lib.hid (Blk.new w 30 zc)
  have hop := Lib.hid (refOpen_any l (w.alloc (.cells zc 30)) (by omega))
  replace g0 := Lib.hid g0
  have hol := opened_len l
  obtain ⟨r, hr0⟩ : ∃ r, r = getF l := ⟨_, rfl⟩
  rw [← hr0]
  by_cases hb : (opened l).2 = 0
  · rw [getF_good hb] at hr0
    generalize opened l = o at *
    obtain ⟨sl, oc⟩ := o
    simp only at hr0 hol hb
    subst hb
    go_enter Tryd.func8, Tryd.ntmps8
    go_wp2_with fail
    go_at_call 25
    refine hop.out.mono ?_
    rintro e w1 ⟨rfl, g1⟩
    have hz1 := Below.size g1
    rw [World.size_alloc] at hz1
    have B := Lib.hid (((blk_more b0.out g1).alloc (.cells #[.string ⟨sl.toArray⟩, .int .i64 0] 57)).alloc (.cells zc 30))
    have R := Lib.hid ((Blk.new w1 57 #[.string ⟨sl.toArray⟩, .int .i64 0]).alloc (.cells zc 30))
    have T0 := Blk.new (w1.alloc (.cells #[.string ⟨sl.toArray⟩, .int .i64 0] 57)) 30 zc
    rw [World.size_alloc] at T0
    have T := Lib.hid T0
    have K := Lib.hid (Gr.alloc (Gr.alloc (Gr.trans g0.out g1) (.cells #[.string ⟨sl.toArray⟩, .int .i64 0] 57)) (.cells zc 30))
    clear hop g1 b0 g0 T0
    unfold readF at hr0
    have hl1 := get_short (sl, 0) 255
    have con := Lib.hid (fun w => refInt_any (sl, 0) 255 w (by omega) (by simp only []; omega))
    try rw [e255] at con
    try rw [e13] at con
    generalize hq1 : get (sl, 0) 255 = q1 at *
    obtain ⟨s1, m1⟩ := q1
    try simp only at con
    go_wp2_with fail
    go_at_call 26
    refine (con.out _).mono ?_
    rintro e v1 ⟨rfl, g⟩
    have hz1 := Below.size g
    have T := Lib.hid ((blk_more T.out g).alloc (.cells #[.string ⟨s1.1.toArray⟩, .int .i64 (s1.2 : Int)] 57))
    have B := Lib.hid ((blk_more B.out g).alloc (.cells #[.string ⟨s1.1.toArray⟩, .int .i64 (s1.2 : Int)] 57))
    have R := Lib.hid ((blk_more R.out g).alloc (.cells #[.string ⟨s1.1.toArray⟩, .int .i64 (s1.2 : Int)] 57))
    have K := Lib.hid (Below.alloc (Below.trans K.out (Below.mono g (Below.size K.out))) (by have := Below.size (Below.trans K.out (Below.mono g (Below.size K.out))); omega) (.cells #[.string ⟨s1.1.toArray⟩, .int .i64 (s1.2 : Int)] 57) : Below w.heap.size w _)
    clear con g
    try clear y0 y1
    go_wp2_with (first
      | ((with_reducible refine wpList_isStore 57 (.tmp 6) (.tmp 33) rfl ?_); refine wpList_store_blk rfl 57 (.tmp 6) (.tmp 33) rfl w1.heap.size #[.string ⟨s1.1.toArray⟩, .int .i64 (s1.2 : Int)] rfl rfl 57 #[.string ⟨sl.toArray⟩, .int .i64 0] R.out rdInfo rfl (by simp [Value.oneCell']) ?_; intro w1' n1 k1 z1; have T1 := k1.blk T.out (by omega); have B1 := k1.blk B.out (by omega); have d := T1.cell 0; have f := T1.frozen 0; have T2 := Lib.hid (T1.set_ 0 (.int .i64 (m1 : Int))); have B2 := Lib.hid (B1.far (p := ⟨w1.heap.size + 1, 0, none⟩) (by show w.heap.size ≠ w1.heap.size + 1; omega) (.int .i64 (m1 : Int))); have R2 := Lib.hid (n1.far (p := ⟨w1.heap.size + 1, 0, none⟩) (by show w1.heap.size ≠ w1.heap.size + 1; omega) (.int .i64 (m1 : Int))); have K2 := Lib.hid (Below.setCell (Below.trans K.out (Below.mono (Kb.below k1 (by have := T.out.lt; omega)) (by omega))) (p := ⟨w1.heap.size + 1, 0, none⟩) (by show w.heap.size ≤ w1.heap.size + 1; omega) (.int .i64 (m1 : Int))); have y0 := R2.out.cell 0; have y1 := R2.out.cell 1; clear T1 B1 T B K R n1 k1 z1))
    have T := T2
    have B := B2
    have K := K2
    have R := R2
    clear T2 B2 K2 R2 d f
    have hl2 := get_short s1 most64
    have con := Lib.hid (fun w => refGet_most s1 w (by omega))
    try rw [e255] at con
    try rw [e13] at con
    generalize hq2 : get s1 most64 = q2 at *
    obtain ⟨s2, m2⟩ := q2
    try simp only at con
    skip
    go_at_call 27
    refine (con.out _).mono ?_
    rintro e v2 ⟨rfl, g⟩
    have hz2 := Below.size g
    have T := Lib.hid ((blk_more T.out g).alloc (.cells #[.string ⟨s2.1.toArray⟩, .int .i64 (s2.2 : Int)] 57))
    have B := Lib.hid ((blk_more B.out g).alloc (.cells #[.string ⟨s2.1.toArray⟩, .int .i64 (s2.2 : Int)] 57))
    have R := Lib.hid ((blk_more R.out g).alloc (.cells #[.string ⟨s2.1.toArray⟩, .int .i64 (s2.2 : Int)] 57))
    have K := Lib.hid (Below.alloc (Below.trans K.out (Below.mono g (Below.size K.out))) (by have := Below.size (Below.trans K.out (Below.mono g (Below.size K.out))); omega) (.cells #[.string ⟨s2.1.toArray⟩, .int .i64 (s2.2 : Int)] 57) : Below w.heap.size w _)
    clear con g
    try clear y0 y1
    go_wp2_with (first
      | ((with_reducible refine wpList_isStore 57 (.tmp 6) (.tmp 41) rfl ?_); refine wpList_store_blk rfl 57 (.tmp 6) (.tmp 41) rfl w1.heap.size #[.string ⟨s2.1.toArray⟩, .int .i64 (s2.2 : Int)] rfl rfl 57 #[.string ⟨s1.1.toArray⟩, .int .i64 (s1.2 : Int)] R.out rdInfo rfl (by simp [Value.oneCell']) ?_; intro w2' n2 k2 z2; have T1 := k2.blk T.out (by omega); have B1 := k2.blk B.out (by omega); have d := T1.cell 1; have f := T1.frozen 1; have T2 := Lib.hid (T1.set_ 1 (.int .u64 (n64 (UInt64.ofNat m2)))); have B2 := Lib.hid (B1.far (p := ⟨w1.heap.size + 1, 1, none⟩) (by show w.heap.size ≠ w1.heap.size + 1; omega) (.int .u64 (n64 (UInt64.ofNat m2)))); have R2 := Lib.hid (n2.far (p := ⟨w1.heap.size + 1, 1, none⟩) (by show w1.heap.size ≠ w1.heap.size + 1; omega) (.int .u64 (n64 (UInt64.ofNat m2)))); have K2 := Lib.hid (Below.setCell (Below.trans K.out (Below.mono (Kb.below k2 (by have := T.out.lt; omega)) (by omega))) (p := ⟨w1.heap.size + 1, 1, none⟩) (by show w.heap.size ≤ w1.heap.size + 1; omega) (.int .u64 (n64 (UInt64.ofNat m2)))); have y0 := R2.out.cell 0; have y1 := R2.out.cell 1; clear T1 B1 T B K R n2 k2 z2))
    have T := T2
    have B := B2
    have K := K2
    have R := R2
    clear T2 B2 K2 R2 d f
    have hl3 := get_short s2 most64
    have con := Lib.hid (fun w => refGet_most s2 w (by omega))
    try rw [e255] at con
    try rw [e13] at con
    generalize hq3 : get s2 most64 = q3 at *
    obtain ⟨s3, m3⟩ := q3
    try simp only at con
    skip
    go_at_call 27
    refine (con.out _).mono ?_
    rintro e v3 ⟨rfl, g⟩
    have hz3 := Below.size g
    have T := Lib.hid ((blk_more T.out g).alloc (.cells #[.string ⟨s3.1.toArray⟩, .int .i64 (s3.2 : Int)] 57))
    have B := Lib.hid ((blk_more B.out g).alloc (.cells #[.string ⟨s3.1.toArray⟩, .int .i64 (s3.2 : Int)] 57))
    have R := Lib.hid ((blk_more R.out g).alloc (.cells #[.string ⟨s3.1.toArray⟩, .int .i64 (s3.2 : Int)] 57))
    have K := Lib.hid (Below.alloc (Below.trans K.out (Below.mono g (Below.size K.out))) (by have := Below.size (Below.trans K.out (Below.mono g (Below.size K.out))); omega) (.cells #[.string ⟨s3.1.toArray⟩, .int .i64 (s3.2 : Int)] 57) : Below w.heap.size w _)
    clear con g
    try clear y0 y1
    go_wp2_with (first
      | ((with_reducible refine wpList_isStore 57 (.tmp 6) (.tmp 49) rfl ?_); refine wpList_store_blk rfl 57 (.tmp 6) (.tmp 49) rfl w1.heap.size #[.string ⟨s3.1.toArray⟩, .int .i64 (s3.2 : Int)] rfl rfl 57 #[.string ⟨s2.1.toArray⟩, .int .i64 (s2.2 : Int)] R.out rdInfo rfl (by simp [Value.oneCell']) ?_; intro w3' n3 k3 z3; have T1 := k3.blk T.out (by omega); have B1 := k3.blk B.out (by omega); have d := T1.cell 2; have f := T1.frozen 2; have T2 := Lib.hid (T1.set_ 2 (.int .u64 (n64 (UInt64.ofNat m3)))); have B2 := Lib.hid (B1.far (p := ⟨w1.heap.size + 1, 2, none⟩) (by show w.heap.size ≠ w1.heap.size + 1; omega) (.int .u64 (n64 (UInt64.ofNat m3)))); have R2 := Lib.hid (n3.far (p := ⟨w1.heap.size + 1, 2, none⟩) (by show w1.heap.size ≠ w1.heap.size + 1; omega) (.int .u64 (n64 (UInt64.ofNat m3)))); have K2 := Lib.hid (Below.setCell (Below.trans K.out (Below.mono (Kb.below k3 (by have := T.out.lt; omega)) (by omega))) (p := ⟨w1.heap.size + 1, 2, none⟩) (by show w.heap.size ≤ w1.heap.size + 1; omega) (.int .u64 (n64 (UInt64.ofNat m3)))); have y0 := R2.out.cell 0; have y1 := R2.out.cell 1; clear T1 B1 T B K R n3 k3 z3))
    have T := T2
    have B := B2
    have K := K2
    have R := R2
    clear T2 B2 K2 R2 d f
    have con := Lib.hid (fun w => refText2_any s3 131072 w (by omega) (by omega))
    try rw [e255] at con
    try rw [e13] at con
    generalize hq4 : getText s3 131072 = q4 at *
    obtain ⟨s4, m4⟩ := q4
    try simp only at con
    skip
    go_at_call 28
    refine (con.out _).mono ?_
    rintro e v4 ⟨rfl, g⟩
    have hz4 := Below.size g
    have T := Lib.hid ((blk_more T.out g).alloc (.cells #[.string ⟨s4.1.toArray⟩, .int .i64 (s4.2 : Int)] 57))
    have B := Lib.hid ((blk_more B.out g).alloc (.cells #[.string ⟨s4.1.toArray⟩, .int .i64 (s4.2 : Int)] 57))
    have R := Lib.hid ((blk_more R.out g).alloc (.cells #[.string ⟨s4.1.toArray⟩, .int .i64 (s4.2 : Int)] 57))
    have K := Lib.hid (Below.alloc (Below.trans K.out (Below.mono g (Below.size K.out))) (by have := Below.size (Below.trans K.out (Below.mono g (Below.size K.out))); omega) (.cells #[.string ⟨s4.1.toArray⟩, .int .i64 (s4.2 : Int)] 57) : Below w.heap.size w _)
    clear con g
    try clear y0 y1
    go_wp2_with (first
      | ((with_reducible refine wpList_isStore 57 (.tmp 6) (.tmp 57) rfl ?_); refine wpList_store_blk rfl 57 (.tmp 6) (.tmp 57) rfl w1.heap.size #[.string ⟨s4.1.toArray⟩, .int .i64 (s4.2 : Int)] rfl rfl 57 #[.string ⟨s3.1.toArray⟩, .int .i64 (s3.2 : Int)] R.out rdInfo rfl (by simp [Value.oneCell']) ?_; intro w4' n4 k4 z4; have T1 := k4.blk T.out (by omega); have B1 := k4.blk B.out (by omega); have d := T1.cell 3; have f := T1.frozen 3; have T2 := Lib.hid (T1.set_ 3 (.string ⟨m4.toArray⟩)); have B2 := Lib.hid (B1.far (p := ⟨w1.heap.size + 1, 3, none⟩) (by show w.heap.size ≠ w1.heap.size + 1; omega) (.string ⟨m4.toArray⟩)); have R2 := Lib.hid (n4.far (p := ⟨w1.heap.size + 1, 3, none⟩) (by show w1.heap.size ≠ w1.heap.size + 1; omega) (.string ⟨m4.toArray⟩)); have K2 := Lib.hid (Below.setCell (Below.trans K.out (Below.mono (Kb.below k4 (by have := T.out.lt; omega)) (by omega))) (p := ⟨w1.heap.size + 1, 3, none⟩) (by show w.heap.size ≤ w1.heap.size + 1; omega) (.string ⟨m4.toArray⟩)); have y0 := R2.out.cell 0; have y1 := R2.out.cell 1; have t0 := T2.out.cell 0; have t1 := T2.out.cell 1; have t2 := T2.out.cell 2; have t3 := T2.out.cell 3; clear T1 B1 T B K R n4 k4 z4))
    have T := T2
    have B := B2
    have K := K2
    have R := R2
    clear T2 B2 K2 R2 d f
    have hen := Lib.hid (fun w => refEnd_any s4 w)
    by_cases he : ended s4 = 0
    · have hr1 : r = (⟨(m1 : Int), UInt64.ofNat m2, UInt64.ofNat m3, m4⟩, 0) := by rw [hr0]; unfold endF; rw [if_neg (by simpa using he)]
      rw [he] at hen
      clear he hr0
      subst hr1
      go_at_call 29
      refine (hen.out _).mono ?_
      rintro e w7 ⟨rfl, g7⟩
      have T7 := blk_more T.out g7
      have t0 := T7.cell 0
      have t1 := T7.cell 1
      have t2 := T7.cell 2
      have t3 := T7.cell 3
      have B := Lib.hid (blk_more B.out g7)
      have K := Lib.hid (Below.trans K.out (Below.mono g7 (Below.size K.out)))
      clear hen y0 y1 g7 T7
      go_wp2_with (first
        | ((with_reducible refine wpList_isStore 30 (.tmp 2) (.tmp 66) rfl ?_); refine wpList_store_blk rfl 30 (.tmp 2) (.tmp 66) rfl w.heap.size (fc ⟨(m1 : Int), UInt64.ofNat m2, UInt64.ofNat m3, m4⟩) rfl rfl 30 zc B.out refInfo rfl (by simp [Value.oneCell']) ?_; intro w8 n8 k8 z8; have x0 := n8.cell 0; have x1 := n8.cell 1; have x2 := n8.cell 2; have x3 := n8.cell 3; have G8 := Lib.hid (Below.trans K.out (Kb.below k8 (by have := Below.size K.out; omega))); clear z8 k8 n8))
      exact bodyPost_ret (v := gotF (⟨(m1 : Int), UInt64.ofNat m2, UInt64.ofNat m3, m4⟩, 0)) (by simp [results, Tryd.results8, go_sem, gotF, x0, x1, x2, x3]) rfl ⟨rfl, G8.out⟩
    · have hr1 : r = (zero, ended s4) := by rw [hr0]; unfold endF; rw [if_pos (by simpa using he)]
      have he' : ((ended s4 : Int) == 0) = false := by rw [beq_eq_false_iff_ne]; omega
      subst hr1
      clear hr0
      go_at_call 29
      refine (hen.out _).mono ?_
      rintro e w7 ⟨rfl, g7⟩
      have R7 := blk_more R.out g7
      have y0 := R7.cell 0
      have y1 := R7.cell 1
      have B := Lib.hid (blk_more B.out g7)
      have K := Lib.hid (Below.trans K.out (Below.mono g7 (Below.size K.out)))
      clear g7 R7 t0 t1 t2 t3
      go_wp2_with fail
      go_at_call 29
      refine (hen.out _).mono ?_
      rintro e w9 ⟨rfl, g9⟩
      have B := Lib.hid (blk_more B.out g9)
      have K := Lib.hid (Below.trans K.out (Below.mono g9 (Below.size K.out)))
      clear g9 hen y0 y1
      go_wp2_with (first
        | ((with_reducible refine wpList_isStore 30 (.tmp 2) (.tmp 63) rfl ?_); refine wpList_store_blk rfl 30 (.tmp 2) (.tmp 63) rfl w.heap.size zc rfl rfl 30 zc B.out refInfo rfl (by simp [Value.oneCell']) ?_; intro w8 n8 k8 z8; have x0 := n8.cell 0; have x1 := n8.cell 1; have x2 := n8.cell 2; have x3 := n8.cell 3; have G8 := Lib.hid (Below.trans K.out (Kb.below k8 (by have := Below.size K.out; omega))); clear z8 k8 n8))
      exact bodyPost_ret (v := gotF (zero, ended s4)) (by simp [results, Tryd.results8, go_sem, gotF, zero, x0, x1, x2, x3]) rfl ⟨rfl, G8.out⟩
  · rw [getF_bad hb] at hr0
    subst hr0
    have hb' : (((opened l).2 : Int) == 0) = false := by rw [beq_eq_false_iff_ne]; omega
    go_enter Tryd.func8, Tryd.ntmps8
    go_wp2_with fail
    go_at_call 25
    refine hop.out.mono ?_
    rintro e w1 ⟨rfl, g1⟩
    have B1 := Lib.hid (blk_more b0.out g1)
    have G1 := Lib.hid (Gr.trans g0.out g1)
    have hz1 := Below.size g1
    rw [World.size_alloc] at hz1
    clear hop g1 b0 g0
    go_wp2_with (first
      | ((with_reducible refine wpList_isStore 30 (.tmp 2) (.tmp 23) rfl ?_); refine wpList_store_blk rfl 30 (.tmp 2) (.tmp 23) rfl w.heap.size zc rfl rfl 30 zc B1.out refInfo rfl (by simp [Value.oneCell']) ?_; intro w4 n4 k4 z4; have x0 := n4.cell 0; have x1 := n4.cell 1; have x2 := n4.cell 2; have x3 := n4.cell 3; have G4 := Lib.hid (Below.trans G1.out (Kb.below k4 (by omega))); clear z4 k4 n4))
    exact bodyPost_ret (v := gotF (zero, (opened l).2)) (by simp [results, Tryd.results8, go_sem, gotF, zero, x0, x1, x2, x3]) rfl ⟨rfl, G4.out⟩
end Fm
end Go.Proofs.YtgkcbhijkcbjkaaDoor
