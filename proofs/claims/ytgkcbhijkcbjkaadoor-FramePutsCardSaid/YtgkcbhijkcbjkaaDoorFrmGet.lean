/- The walk of frame.Get. No condition but that the sums' table is laid. -/
import Derived.Test.YtgkcbhijkcbjkaaDoorFrmPut
set_option linter.unusedVariables false
set_option linter.unusedSimpArgs false
namespace Go.Proofs.YtgkcbhijkcbjkaaDoor
open Go Go.RowKit W Vint Crc
namespace Fm
def gotF (r : Frm × Nat) : Value := .tuple #[frmV r.1, .int .i64 (r.2 : Int)]
theorem getF_bad {l : List UInt8} (h : (opened l).2 ≠ 0) : getF l = (zero, (opened l).2) := by unfold getF; rw [if_pos h]
theorem getF_good {l : List UInt8} (h : (opened l).2 = 0) : getF l = endF (readF ((opened l).1, 0)) := by unfold getF; rw [if_neg (by omega)]
theorem opened_len (l : List UInt8) : (opened l).1.length ≤ l.length := by
  unfold opened
  split
  · simp
  · split
    · simp
    · simp
abbrev zc : Array Value := #[.int .i64 0, .int .u64 0, .int .u64 0, .string ⟨#[]⟩]
theorem e255 : (255 : Int).toNat = 255 := rfl
theorem e13 : (131072 : Int).toNat = 131072 := rfl
theorem num_most (g : Nat) (s : RS) (w : World) (hR : Rdr w g s) :
    Calls Tryd.prog 22 #[.pointer (some ⟨g, 0, none⟩), .int .u64 18446744073709551615] w fun e w' => e = .returned (.int .u64 (n64 (UInt64.ofNat (get s most64).2))) ∧ Rdr w' g (get s most64).1 ∧ Kb g w w' :=
  rnum_any g s 18446744073709551615 w hR
set_option maxRecDepth 100000 in
set_option maxHeartbeats 4000000 in
theorem get_any (A : Option Addr) (c : Nat) (l : List UInt8) (w : World) (hs : l.length ≤ 1000000) (hc : l.length ≤ c) (hm : c ≤ maxLen) (hr : RB w w.heap.size A l) (hH : Halves w) :
    Calls Tryd.prog 7 #[.slice A l.length c] w fun e w' => e = .returned (gotF (getF l)) ∧ Gr w w' := by
  have g0 := (Gr.refl w).alloc (.cells zc 26)
  have b0 := Lib.hid (Blk.new w 26 zc)
  have hop := Lib.hid (open_any A c l _ (by omega) hc hm ((hr.below g0).more g0.size) (hH.gr hH.lt g0))
  replace g0 := Lib.hid g0
  have hol := opened_len l
  obtain ⟨r, hr0⟩ : ∃ r, r = getF l := ⟨_, rfl⟩
  rw [← hr0]
  clear hr hH
  by_cases hb : (opened l).2 = 0
  · rw [getF_good hb] at hr0
    have hb' : ((opened l).2 : Int) = 0 := by omega
    generalize opened l = o at *
    obtain ⟨sl, oc⟩ := o
    simp only at hr0 hol hb
    subst hb
    go_enter Tryd.func7, Tryd.ntmps7
    go_wp2_with fail
    go_at_call 19
    refine hop.out.mono ?_
    rintro e w1 ⟨v, rfl, o1, g1⟩
    obtain ⟨A1, c1, rfl, _, _⟩ := o1.shape
    have B1 := blk_more b0.out g1
    have G1 := Gr.trans g0.out g1
    have hz1 := Below.size g1
    rw [World.size_alloc] at hz1
    have hrd := Lib.hid (read_any A1 c1 sl w1 (by omega) o1.rb)
    replace B1 := Lib.hid B1
    replace G1 := Lib.hid G1
    clear hop g1 o1 b0 g0 hb'
    go_wp2_with fail
    go_at_call 20
    refine hrd.out.mono ?_
    rintro e w2 ⟨g, rfl, hg1, R0, g2⟩
    have hgl := R0.lt
    have hR := Lib.hid (R0.gr ((Gr.refl w2).alloc (.cells zc 26)))
    have B := Lib.hid ((blk_more B1.out g2).alloc (.cells zc 26))
    have T := Lib.hid (Blk.new w2 26 zc)
    have hz2 := Below.size g2
    have G2 := Lib.hid (Gr.trans G1.out g2)
    have K := Lib.hid ((Kb.refl g w2).alloc (.cells zc 26))
    clear hrd R0 g2 B1 G1
    unfold readF at hr0
    have con1 := Lib.hid (rint_any g (sl, 0) 255 _ (by omega) hR.out)
    try rw [e255] at con1
    try rw [e13] at con1
    generalize hq1 : get (sl, 0) 255 = q1 at *
    obtain ⟨s1, m1⟩ := q1
    try simp only at con1
    go_wp2_with fail
    go_at_call 21
    refine con1.out.mono ?_
    rintro e w3 ⟨rfl, R, q⟩
    have hz1 := q.size
    have T1 := q.blk T.out (by omega)
    have B1 := q.blk B.out (by omega)
    have d1 := T1.cell 0
    have f1 := T1.frozen 0
    have T2 := Lib.hid (T1.set_ 0 (.int .i64 (m1 : Int)))
    have B2 := Lib.hid (B1.far (p := ⟨w2.heap.size, 0, none⟩) (by show w.heap.size ≠ w2.heap.size; omega) (.int .i64 (m1 : Int)))
    have R2 := Lib.hid (R.far (b := w2.heap.size) (by omega) 0 (.int .i64 (m1 : Int)))
    have K2 := Lib.hid ((K.out.trans q).far (n := w2.heap.size) (Nat.le_refl _) 0 (.int .i64 (m1 : Int)))
    clear con1 R q T1 B1 T B K hR
    have T := T2
    have B := B2
    have K := K2
    have hR := R2
    clear T2 B2 K2 R2
    have con2 := Lib.hid (num_most g s1 _ hR.out)
    try rw [e255] at con2
    try rw [e13] at con2
    generalize hq2 : get s1 most64 = q2 at *
    obtain ⟨s2, m2⟩ := q2
    try simp only at con2
    go_wp2_with fail
    go_at_call 22
    refine con2.out.mono ?_
    rintro e w4 ⟨rfl, R, q⟩
    have hz2 := q.size
    have T1 := q.blk T.out (by omega)
    have B1 := q.blk B.out (by omega)
    have d2 := T1.cell 1
    have f2 := T1.frozen 1
    have T2 := Lib.hid (T1.set_ 1 (.int .u64 (n64 (UInt64.ofNat m2))))
    have B2 := Lib.hid (B1.far (p := ⟨w2.heap.size, 1, none⟩) (by show w.heap.size ≠ w2.heap.size; omega) (.int .u64 (n64 (UInt64.ofNat m2))))
    have R2 := Lib.hid (R.far (b := w2.heap.size) (by omega) 1 (.int .u64 (n64 (UInt64.ofNat m2))))
    have K2 := Lib.hid ((K.out.trans q).far (n := w2.heap.size) (Nat.le_refl _) 1 (.int .u64 (n64 (UInt64.ofNat m2))))
    clear con2 R q T1 B1 T B K hR
    have T := T2
    have B := B2
    have K := K2
    have hR := R2
    clear T2 B2 K2 R2
    have con3 := Lib.hid (num_most g s2 _ hR.out)
    try rw [e255] at con3
    try rw [e13] at con3
    generalize hq3 : get s2 most64 = q3 at *
    obtain ⟨s3, m3⟩ := q3
    try simp only at con3
    go_wp2_with fail
    go_at_call 22
    refine con3.out.mono ?_
    rintro e w5 ⟨rfl, R, q⟩
    have hz3 := q.size
    have T1 := q.blk T.out (by omega)
    have B1 := q.blk B.out (by omega)
    have d3 := T1.cell 2
    have f3 := T1.frozen 2
    have T2 := Lib.hid (T1.set_ 2 (.int .u64 (n64 (UInt64.ofNat m3))))
    have B2 := Lib.hid (B1.far (p := ⟨w2.heap.size, 2, none⟩) (by show w.heap.size ≠ w2.heap.size; omega) (.int .u64 (n64 (UInt64.ofNat m3))))
    have R2 := Lib.hid (R.far (b := w2.heap.size) (by omega) 2 (.int .u64 (n64 (UInt64.ofNat m3))))
    have K2 := Lib.hid ((K.out.trans q).far (n := w2.heap.size) (Nat.le_refl _) 2 (.int .u64 (n64 (UInt64.ofNat m3))))
    clear con3 R q T1 B1 T B K hR
    have T := T2
    have B := B2
    have K := K2
    have hR := R2
    clear T2 B2 K2 R2
    have con4 := Lib.hid (rtext_any g s3 131072 _ (by omega) hR.out)
    try rw [e255] at con4
    try rw [e13] at con4
    generalize hq4 : getText s3 131072 = q4 at *
    obtain ⟨s4, m4⟩ := q4
    try simp only at con4
    go_wp2_with fail
    go_at_call 23
    refine con4.out.mono ?_
    rintro e w6 ⟨rfl, R, q⟩
    have hz4 := q.size
    have T1 := q.blk T.out (by omega)
    have B1 := q.blk B.out (by omega)
    have d4 := T1.cell 3
    have f4 := T1.frozen 3
    have T2 := Lib.hid (T1.set_ 3 (.string ⟨m4.toArray⟩))
    have B2 := Lib.hid (B1.far (p := ⟨w2.heap.size, 3, none⟩) (by show w.heap.size ≠ w2.heap.size; omega) (.string ⟨m4.toArray⟩))
    have R2 := Lib.hid (R.far (b := w2.heap.size) (by omega) 3 (.string ⟨m4.toArray⟩))
    have K2 := Lib.hid ((K.out.trans q).far (n := w2.heap.size) (Nat.le_refl _) 3 (.string ⟨m4.toArray⟩))
    clear con4 R q T1 B1 T B K hR
    have T := T2
    have B := B2
    have K := K2
    have hR := R2
    clear T2 B2 K2 R2
    have hen := Lib.hid (end_any g s4 _ hR.out)
    have y0 := T.out.cell 0
    have y1 := T.out.cell 1
    have y2 := T.out.cell 2
    have y3 := T.out.cell 3
    clear T hR
    by_cases he : ended s4 = 0
    · have hr1 : r = (⟨(m1 : Int), UInt64.ofNat m2, UInt64.ofNat m3, m4⟩, 0) := by rw [hr0]; unfold endF; rw [if_neg (by simpa using he)]
      rw [he] at hen
      clear he hr0
      subst hr1
      go_wp2_with fail
      go_at_call 24
      refine hen.out.mono ?_
      rintro e w7 ⟨rfl, rfl⟩
      clear hen
      go_wp2_with (first
        | ((with_reducible refine wpList_isStore 26 (.tmp 2) (.tmp 38) rfl ?_); refine wpList_store_blk rfl 26 (.tmp 2) (.tmp 38) rfl w.heap.size (fc ⟨(m1 : Int), UInt64.ofNat m2, UInt64.ofNat m3, m4⟩) rfl rfl 26 zc B.out frmInfo rfl (by simp [Value.oneCell']) ?_; intro w8 n8 k8 z8; have x0 := n8.cell 0; have x1 := n8.cell 1; have x2 := n8.cell 2; have x3 := n8.cell 3; have G8 := Lib.hid (Below.trans G2.out (Below.trans (Below.mono (Kb.below K.out (by omega)) (by omega)) (Kb.below k8 (by have := Kb.size K.out; omega)))); clear z8 k8 n8))
      exact bodyPost_ret (v := gotF (⟨(m1 : Int), UInt64.ofNat m2, UInt64.ofNat m3, m4⟩, 0)) (by simp [results, Tryd.results7, go_sem, gotF, x0, x1, x2, x3]) rfl ⟨rfl, G8.out⟩
    · have hr1 : r = (zero, ended s4) := by rw [hr0]; unfold endF; rw [if_pos (by simpa using he)]
      have he' : ((ended s4 : Int) == 0) = false := by rw [beq_eq_false_iff_ne]; omega
      subst hr1
      clear y0 y1 y2 y3 hr0
      go_wp2_with fail
      go_at_call 24
      refine hen.out.mono ?_
      rintro e w7 ⟨rfl, rfl⟩
      clear hen
      go_wp2_with (first
        | ((with_reducible refine wpList_isStore 26 (.tmp 2) (.tmp 36) rfl ?_); refine wpList_store_blk rfl 26 (.tmp 2) (.tmp 36) rfl w.heap.size zc rfl rfl 26 zc B.out frmInfo rfl (by simp [Value.oneCell']) ?_; intro w8 n8 k8 z8; have x0 := n8.cell 0; have x1 := n8.cell 1; have x2 := n8.cell 2; have x3 := n8.cell 3; have G8 := Lib.hid (Below.trans G2.out (Below.trans (Below.mono (Kb.below K.out (by omega)) (by omega)) (Kb.below k8 (by have := Kb.size K.out; omega)))); clear z8 k8 n8))
      exact bodyPost_ret (v := gotF (zero, ended s4)) (by simp [results, Tryd.results7, go_sem, gotF, zero, x0, x1, x2, x3]) rfl ⟨rfl, G8.out⟩
  · rw [getF_bad hb] at hr0
    subst hr0
    have hb' : (((opened l).2 : Int) == 0) = false := by rw [beq_eq_false_iff_ne]; omega
    go_enter Tryd.func7, Tryd.ntmps7
    go_wp2_with fail
    go_at_call 19
    refine hop.out.mono ?_
    rintro e w1 ⟨v, rfl, o1, g1⟩
    have B1 := Lib.hid (blk_more b0.out g1)
    have G1 := Lib.hid (Gr.trans g0.out g1)
    have hz1 := Below.size g1
    rw [World.size_alloc] at hz1
    clear hop g1 o1 b0 g0
    go_wp2_with (first
      | ((with_reducible refine wpList_isStore 26 (.tmp 2) (.tmp 16) rfl ?_); refine wpList_store_blk rfl 26 (.tmp 2) (.tmp 16) rfl w.heap.size zc rfl rfl 26 zc B1.out frmInfo rfl (by simp [Value.oneCell']) ?_; intro w4 n4 k4 z4; have x0 := n4.cell 0; have x1 := n4.cell 1; have x2 := n4.cell 2; have x3 := n4.cell 3; have G4 := Lib.hid (Below.trans G1.out (Kb.below k4 (by omega))); clear z4 k4 n4))
    exact bodyPost_ret (v := gotF (zero, (opened l).2)) (by simp [results, Tryd.results7, go_sem, gotF, zero, x0, x1, x2, x3]) rfl ⟨rfl, G4.out⟩
end Fm
end Go.Proofs.YtgkcbhijkcbjkaaDoor
