/- The walks of the reference's reader: ints, texts, sums, the end. No condition but sizes. -/
import Derived.Test.YtgkcbhijkcbjkaaDoorVintRefC
set_option linter.unusedVariables false
set_option linter.unusedSimpArgs false
namespace Go.Proofs.YtgkcbhijkcbjkaaDoor
open Go Go.RowKit W
namespace Vint
abbrev getIV (r : RS × Nat) : Value := .tuple #[rsV r.1, .int .i64 (r.2 : Int)]
theorem refInt_of (s : RS) (most : Int) (m : Nat) (w : World) (hm : m ≤ 9223372036854775807) (hcase : (most = (m : Int)) ∨ (most < 0 ∧ m = 0)) (hsz : s.1.length ≤ 1099511627776) : Calls Tryd.prog 26 #[rsV s, .int .i64 most] w fun e w' => e = .returned (getIV (get s m)) ∧ Gr w w' := by
  obtain ⟨w1, hw1⟩ : ∃ w1, w1 = (w.alloc (.cells #[.string ⟨s.1.toArray⟩, .int .i64 (s.2 : Int)] 57)).alloc (.cells #[.string ⟨#[]⟩, .int .i64 0] 57) := ⟨_, rfl⟩
  have hb0 := (Blk.new w 57 #[.string ⟨s.1.toArray⟩, .int .i64 (s.2 : Int)]).alloc (.cells #[.string ⟨#[]⟩, .int .i64 0] 57)
  have hb1 := Blk.new (w.alloc (.cells #[.string ⟨s.1.toArray⟩, .int .i64 (s.2 : Int)] 57)) 57 #[.string ⟨#[]⟩, .int .i64 0]
  rw [World.size_alloc] at hb1
  have hg1 := ((Gr.refl w).alloc (.cells #[.string ⟨s.1.toArray⟩, .int .i64 (s.2 : Int)] 57)).alloc (.cells #[.string ⟨#[]⟩, .int .i64 0] 57)
  rw [← hw1] at hb0 hb1 hg1
  have q0 : w1.cell? ⟨w.heap.size, 0, none⟩ = some (.string ⟨s.1.toArray⟩) := hb0.cell 0
  have q1 : w1.cell? ⟨w.heap.size, 1, none⟩ = some (.int .i64 (s.2 : Int)) := hb0.cell 1
  have hmm : (UInt64.ofNat m).toNat = m := by rw [UInt64.toNat_ofNat']; omega
  have hn := refGet_any s (UInt64.ofNat m) w1 hsz
  rw [hmm] at hn
  have hv := get_le s m
  generalize get s m = r at *
  obtain ⟨s2, v⟩ := r
  have hv' : v ≤ 9223372036854775807 := Nat.le_trans hv hm
  have hn64 : n64 (UInt64.ofNat v) = (v : Int) := by unfold n64; rw [UInt64.toNat_ofNat']; omega
  replace hn := Lib.hid hn
  replace hb1 := Lib.hid hb1
  replace hg1 := Lib.hid hg1
  replace hw1 := Lib.hid hw1
  clear hb0 hmm hv
  rcases hcase with rfl | ⟨hneg, rfl⟩
  · have hm1 : ¬ (m : Int) < 0 := by omega
    go_enter Tryd.func26, Tryd.ntmps26
    go_wp2_with fail
    rw [← hw1.out]
    refine hn.out.mono ?_
    rintro e w2 ⟨rfl, hgr⟩
    have hc := (hb1.out.below hgr hb1.out.lt).alloc (.cells #[.string ⟨s2.1.toArray⟩, .int .i64 (s2.2 : Int)] 57)
    obtain ⟨f0, d0, f1, d1, hb3⟩ := hc.pair (.string ⟨s2.1.toArray⟩) (.int .i64 (s2.2 : Int))
    have d1' := hc.cell 1
    have z0 := hb3.cell 0
    have z1 := hb3.cell 1
    have hge := Lib.hid (Below.setCell (Below.setCell (Gr.alloc (hg1.out.trans hgr) (.cells #[.string ⟨s2.1.toArray⟩, .int .i64 (s2.2 : Int)] 57)) (p := ⟨w.heap.size + 1, 0, none⟩) (Nat.le_succ _) (.string ⟨s2.1.toArray⟩)) (p := ⟨w.heap.size + 1, 1, none⟩) (Nat.le_succ _) (.int .i64 (s2.2 : Int)))
    clear hgr hc hb3 hn
    go_wp2
    refine bodyPost_ret (v := getIV (s2, v)) (by simp [results, Tryd.results26, go_sem, z0, z1]) rfl ⟨rfl, hge.out⟩
  · go_enter Tryd.func26, Tryd.ntmps26
    go_wp2_with fail
    rw [← hw1.out]
    refine hn.out.mono ?_
    rintro e w2 ⟨rfl, hgr⟩
    have hc := (hb1.out.below hgr hb1.out.lt).alloc (.cells #[.string ⟨s2.1.toArray⟩, .int .i64 (s2.2 : Int)] 57)
    obtain ⟨f0, d0, f1, d1, hb3⟩ := hc.pair (.string ⟨s2.1.toArray⟩) (.int .i64 (s2.2 : Int))
    have d1' := hc.cell 1
    have z0 := hb3.cell 0
    have z1 := hb3.cell 1
    have hge := Lib.hid (Below.setCell (Below.setCell (Gr.alloc (hg1.out.trans hgr) (.cells #[.string ⟨s2.1.toArray⟩, .int .i64 (s2.2 : Int)] 57)) (p := ⟨w.heap.size + 1, 0, none⟩) (Nat.le_succ _) (.string ⟨s2.1.toArray⟩)) (p := ⟨w.heap.size + 1, 1, none⟩) (Nat.le_succ _) (.int .i64 (s2.2 : Int)))
    clear hgr hc hb3 hn
    go_wp2
    refine bodyPost_ret (v := getIV (s2, v)) (by simp [results, Tryd.results26, go_sem, z0, z1]) rfl ⟨rfl, hge.out⟩
theorem refInt_any (s : RS) (most : Int) (w : World) (hm : most ≤ 9223372036854775807) (hsz : s.1.length ≤ 1099511627776) : Calls Tryd.prog 26 #[rsV s, .int .i64 most] w fun e w' => e = .returned (getIV (get s most.toNat)) ∧ Gr w w' := by
  by_cases h : 0 ≤ most
  · exact refInt_of s most most.toNat w (by omega) (.inl (by omega)) hsz
  · exact refInt_of s most most.toNat w (by omega) (.inr ⟨by omega, by omega⟩) hsz
theorem get_len (s : RS) (most : Nat) : (get s most).1.1.length ≤ s.1.length := by
  unfold get
  split
  · split
    · simp
    · simp
  · exact Nat.le_refl _
abbrev getTV (r : RS × List UInt8) : Value := .tuple #[rsV r.1, .string ⟨r.2.toArray⟩]
set_option maxHeartbeats 2000000 in
theorem refText2_any (s : RS) (most : Int) (w : World) (hm : most ≤ 9223372036854775807) (hsz : s.1.length ≤ 1099511627776) : Calls Tryd.prog 28 #[rsV s, .int .i64 most] w fun e w' => e = .returned (getTV (getText s most.toNat)) ∧ Gr w w' := by
  obtain ⟨w1, hw1⟩ : ∃ w1, w1 = (w.alloc (.cells #[.string ⟨s.1.toArray⟩, .int .i64 (s.2 : Int)] 57)).alloc (.cells #[.string ⟨#[]⟩, .int .i64 0] 57) := ⟨_, rfl⟩
  have hb0 := (Blk.new w 57 #[.string ⟨s.1.toArray⟩, .int .i64 (s.2 : Int)]).alloc (.cells #[.string ⟨#[]⟩, .int .i64 0] 57)
  have hb1 := Blk.new (w.alloc (.cells #[.string ⟨s.1.toArray⟩, .int .i64 (s.2 : Int)] 57)) 57 #[.string ⟨#[]⟩, .int .i64 0]
  rw [World.size_alloc] at hb1
  have hg1 := ((Gr.refl w).alloc (.cells #[.string ⟨s.1.toArray⟩, .int .i64 (s.2 : Int)] 57)).alloc (.cells #[.string ⟨#[]⟩, .int .i64 0] 57)
  rw [← hw1] at hb0 hb1 hg1
  have q0 : w1.cell? ⟨w.heap.size, 0, none⟩ = some (.string ⟨s.1.toArray⟩) := hb0.cell 0
  have q1 : w1.cell? ⟨w.heap.size, 1, none⟩ = some (.int .i64 (s.2 : Int)) := hb0.cell 1
  have hn := refInt_any s most w1 hm hsz
  have hll := get_len s most.toNat
  obtain ⟨V, hV⟩ : ∃ V, V = getText s most.toNat := ⟨_, rfl⟩
  rw [← hV]
  unfold getText at hV
  have hgl := get_le s most.toNat
  generalize get s most.toNat = r at *
  obtain ⟨⟨l1, e1⟩, n⟩ := r
  have hll : l1.length ≤ 1099511627776 := Nat.le_trans hll hsz
  have hll2 : (⟨l1.toArray⟩ : ByteArray).size = l1.length := rfl
  replace hn := Lib.hid hn
  replace hb1 := Lib.hid hb1
  replace hg1 := Lib.hid hg1
  replace hw1 := Lib.hid hw1
  replace hV := Lib.hid hV
  have hn63 : n ≤ 9223372036854775807 := by omega
  clear hb0 hgl
  by_cases he : e1 = 0
  · subst he
    by_cases hc : l1.length < n
    · have hci : (l1.length : Int) < (n : Int) := by omega
      have hv : Hid (V = (([], 4), [])) := by rw [hV.out, if_pos rfl, if_pos hc]; exact Lib.hid rfl
      clear hc
      go_enter Tryd.func28, Tryd.ntmps28
      go_wp2_with fail
      rw [← hw1.out]
      refine hn.out.mono ?_
      rintro e w2 ⟨rfl, hgr⟩
      have hc := Lib.hid ((hb1.out.below hgr hb1.out.lt).alloc (.cells #[.string ⟨l1.toArray⟩, .int .i64 0] 57))
      have hg2 := Lib.hid (Gr.alloc (hg1.out.trans hgr) (.cells #[.string ⟨l1.toArray⟩, .int .i64 0] 57))
      have hfl := Lib.hid (fail_any (l1, 0) 4 (w2.alloc (.cells #[.string ⟨l1.toArray⟩, .int .i64 0] 57)))
      clear hgr hn
      go_wp2_with fail
      refine hfl.out.mono ?_
      rintro e w3 ⟨rfl, hgr⟩
      replace hc := hc.out.below hgr hc.out.lt
      replace hg2 := Lib.hid (hg2.out.trans hgr)
      obtain ⟨f0, d0, f1, d1, hb3⟩ := hc.pair (.string ⟨#[]⟩) (.int .i64 4)
      have d1' := hc.cell 1
      have z0 := hb3.cell 0
      have z1 := hb3.cell 1
      have hge := Lib.hid (Below.setCell (Below.setCell hg2.out (p := ⟨w.heap.size + 1, 0, none⟩) (Nat.le_succ _) (.string ⟨#[]⟩)) (p := ⟨w.heap.size + 1, 1, none⟩) (Nat.le_succ _) (.int .i64 4))
      clear hgr hc hb3 hfl
      go_wp2
      refine bodyPost_ret (v := getTV (([], 4), [])) (by simp [results, Tryd.results28, go_sem, z0, z1]) rfl ⟨by rw [hv.out], hge.out⟩
    · have hci : ¬ (l1.length : Int) < (n : Int) := by omega
      have hde : (l1.drop n).take (l1.length - n) = l1.drop n := List.take_of_length_le (by rw [List.length_drop]; exact Nat.le_refl _)
      have hv : Hid (V = (((l1.drop n).take (l1.length - n), 0), l1.take n)) := by rw [hV.out, if_pos rfl, if_neg hc, hde]; exact Lib.hid rfl
      clear hde
      have hnl : n ≤ l1.length := by omega
      have hnli : (n : Int) ≤ (l1.length : Int) := by omega
      clear hc
      go_enter Tryd.func28, Tryd.ntmps28
      go_wp2_with fail
      rw [← hw1.out]
      refine hn.out.mono ?_
      rintro e w2 ⟨rfl, hgr⟩
      have hc := Lib.hid ((hb1.out.below hgr hb1.out.lt).alloc (.cells #[.string ⟨l1.toArray⟩, .int .i64 0] 57))
      have hg2 := Lib.hid (Gr.alloc (hg1.out.trans hgr) (.cells #[.string ⟨l1.toArray⟩, .int .i64 0] 57))
      have hx := Lib.hid (Blk.new w2 57 #[.string ⟨l1.toArray⟩, .int .i64 0])
      have hne : w2.heap.size ≠ w.heap.size + 1 := by
        have h1 := hb1.out.lt
        have h2 := hgr.size
        omega
      clear hgr hn
      go_wp2
      have hx1 := hx.out.far (p := ⟨w.heap.size + 1, 0, none⟩) hne (.string ⟨((l1.drop n).take (l1.length - n)).toArray⟩)
      have x1 := hx1.cell 0
      have x2 := (hx1.far (p := ⟨w.heap.size + 1, 1, none⟩) hne (.int .i64 0)).cell 0
      have x0 := hx.out.cell 0
      clear hx1 hne
      replace hc := hc.out
      have f1' := hc.frozen 1
      obtain ⟨f0, d0, f1, d1, hb3⟩ := hc.pair (.string ⟨((l1.drop n).take (l1.length - n)).toArray⟩) (.int .i64 0)
      have d1' := hc.cell 1
      have z0 := hb3.cell 0
      have z1 := hb3.cell 1
      have hge := Lib.hid (Below.setCell (Below.setCell hg2.out (p := ⟨w.heap.size + 1, 0, none⟩) (Nat.le_succ _) (.string ⟨((l1.drop n).take (l1.length - n)).toArray⟩)) (p := ⟨w.heap.size + 1, 1, none⟩) (Nat.le_succ _) (.int .i64 0))
      clear hc hb3 hg2
      go_region
      all_goals
        go_wp2
        refine bodyPost_ret (v := getTV (((l1.drop n).take (l1.length - n), 0), l1.take n)) (by simp [results, Tryd.results28, go_sem, z0, z1]) rfl ⟨by rw [hv.out], Below.drew hge.out⟩
  · have hci : ((e1 : Int) == 0) = false := by simp; omega
    have hv : Hid (V = ((l1, e1), [])) := by rw [hV.out, if_neg he]; exact Lib.hid rfl
    clear he
    go_enter Tryd.func28, Tryd.ntmps28
    go_wp2_with fail
    rw [← hw1.out]
    refine hn.out.mono ?_
    rintro e w2 ⟨rfl, hgr⟩
    have hc := (hb1.out.below hgr hb1.out.lt).alloc (.cells #[.string ⟨l1.toArray⟩, .int .i64 (e1 : Int)] 57)
    have hg2 := Lib.hid (Gr.alloc (hg1.out.trans hgr) (.cells #[.string ⟨l1.toArray⟩, .int .i64 (e1 : Int)] 57))
    obtain ⟨f0, d0, f1, d1, hb3⟩ := hc.pair (.string ⟨l1.toArray⟩) (.int .i64 (e1 : Int))
    have d1' := hc.cell 1
    have z0 := hb3.cell 0
    have z1 := hb3.cell 1
    have hge := Lib.hid (Below.setCell (Below.setCell hg2.out (p := ⟨w.heap.size + 1, 0, none⟩) (Nat.le_succ _) (.string ⟨l1.toArray⟩)) (p := ⟨w.heap.size + 1, 1, none⟩) (Nat.le_succ _) (.int .i64 (e1 : Int)))
    clear hgr hc hb3 hn
    go_wp2
    refine bodyPost_ret (v := getTV ((l1, e1), [])) (by simp [results, Tryd.results28, go_sem, z0, z1]) rfl ⟨by rw [hv.out], hge.out⟩
end Vint
end Go.Proofs.YtgkcbhijkcbjkaaDoor

