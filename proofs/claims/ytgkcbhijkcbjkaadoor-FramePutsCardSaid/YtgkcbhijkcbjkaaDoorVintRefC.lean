/- The walks of the reference's reader: numbers. No condition but sizes. -/
import Derived.Test.YtgkcbhijkcbjkaaDoorVintReadE
set_option linter.unusedVariables false
set_option linter.unusedSimpArgs false
namespace Go.Proofs.YtgkcbhijkcbjkaaDoor
open Go Go.RowKit W
namespace Vint
/-- The reference's reader, as a value. -/
abbrev rsV (s : RS) : Value := .agg #[.string ⟨s.1.toArray⟩, .int .i64 (s.2 : Int)]
theorem fail_any (s : RS) (code : Nat) (w : World) : Calls Tryd.prog 45 #[rsV s, .int .i64 (code : Int)] w fun e w' => e = .returned (rsV ([], code)) ∧ Gr w w' := by
  have hb := (Blk.new (w.alloc (.cells #[.string ⟨s.1.toArray⟩, .int .i64 (s.2 : Int)] 57)) 57 #[.string ⟨#[]⟩, .int .i64 (code : Int)])
  have hg := Lib.hid (((Gr.refl w).alloc (.cells #[.string ⟨s.1.toArray⟩, .int .i64 (s.2 : Int)] 57)).alloc (.cells #[.string ⟨#[]⟩, .int .i64 (code : Int)] 57))
  rw [World.size_alloc] at hb
  have z0 := hb.cell 0
  have z1 := hb.cell 1
  clear hb
  go_enter Tryd.func45, Tryd.ntmps45
  go_wp2
  exact bodyPost_ret (v := rsV ([], code)) (by simp [results, Tryd.results45, go_sem, z0, z1]) rfl ⟨rfl, hg.out⟩
theorem u128 (i : Nat) : UInt64.ofNat (128 ^ i) * 128 = UInt64.ofNat (128 ^ (i + 1)) := by
  rw [Nat.pow_succ, UInt64.ofNat_mul]
  rfl
theorem scan_add (nn i : Nat) (c : UInt8) : UInt64.ofNat nn + UInt64.ofNat (128 ^ i) * (c.toUInt64 % 128) = UInt64.ofNat (nn + 128 ^ i * (c.toNat % 128)) := by
  rw [UInt64.ofNat_add, UInt64.ofNat_mul]
  congr 2
  apply UInt64.toNat_inj.1
  have h : c.toNat % 128 < 128 := Nat.mod_lt _ (by omega)
  rw [UInt64.toNat_ofNat', Nat.mod_eq_of_lt (show _ < 2 ^ 64 by omega), UInt64.toNat_mod]
  simp
/-- What the reference's read of a number hands back. -/
abbrev getRV (r : RS × Nat) : Value := .tuple #[rsV r.1, .int .u64 (n64 (UInt64.ofNat r.2))]
set_option maxRecDepth 100000 in
set_option maxHeartbeats 8000000 in
theorem refGet_ok (l : List UInt8) (most : UInt64) (w : World) (hsz : l.length ≤ 1099511627776) : Calls Tryd.prog 27 #[rsV (l, 0), .int .u64 (n64 most)] w fun e w' => e = .returned (getRV (get (l, 0) most.toNat)) ∧ Gr w w' := by
  obtain ⟨w1, hw1⟩ : ∃ w1, w1 = (w.alloc (.cells #[.string ⟨l.toArray⟩, .int .i64 0] 57)).alloc (.cells #[.string ⟨#[]⟩, .int .i64 0] 57) := ⟨_, rfl⟩
  have hb0 := (Blk.new w 57 #[.string ⟨l.toArray⟩, .int .i64 0]).alloc (.cells #[.string ⟨#[]⟩, .int .i64 0] 57)
  have hb1 := Blk.new (w.alloc (.cells #[.string ⟨l.toArray⟩, .int .i64 0] 57)) 57 #[.string ⟨#[]⟩, .int .i64 0]
  rw [World.size_alloc] at hb1
  have hg1 := ((Gr.refl w).alloc (.cells #[.string ⟨l.toArray⟩, .int .i64 0] 57)).alloc (.cells #[.string ⟨#[]⟩, .int .i64 0] 57)
  rw [← hw1] at hb0 hb1 hg1
  have q0 : w1.cell? ⟨w.heap.size, 0, none⟩ = some (.string ⟨l.toArray⟩) := hb0.cell 0
  have q1 : w1.cell? ⟨w.heap.size, 1, none⟩ = some (.int .i64 0) := hb0.cell 1
  rw [get_ok]
  obtain ⟨r, hrr⟩ : ∃ r, r = scan l most.toNat 0 0 := ⟨_, rfl⟩
  rw [← hrr]
  obtain ⟨V, hV⟩ : ∃ V : RS × Nat, V = ((if r.1 = 0 then left l r else [], r.1), r.2.1) := ⟨_, rfl⟩
  rw [← hV]
  replace hV := Lib.hid hV
  replace hrr := Lib.hid hrr
  replace hb1 := Lib.hid hb1
  replace hg1 := Lib.hid hg1
  replace hw1 := Lib.hid hw1
  clear hb0
  go_enter Tryd.func27, Tryd.ntmps27
  go_wp2_with fail
  rw [← hw1.out]
  go_loop [6, 7, 8] (fun x u j => ∃ (i nn : Nat), i ≤ 10 ∧ x = .int .u64 (n64 (UInt64.ofNat nn)) ∧ u = .int .u64 (n64 (UInt64.ofNat (128 ^ i))) ∧ j = .int .i64 (i : Int) ∧ nn < 128 ^ i ∧ Hid (r = scan l most.toNat i nn)) (fun _ _ j => 10 - (intOf j).toNat)
  case atStart => exact ⟨0, 0, by omega, rfl, rfl, rfl, by omega, hrr⟩
  case round =>
    obtain ⟨i, nn, hi, rfl, rfl, rfl, hnn, hs⟩ := hrel
    by_cases h10 : i < 10
    · have h10i : (i : Int) < 10 := by omega
      by_cases hl : i < l.length
      · have hnei : ¬ ((l.length : Int) ≤ (i : Int)) := by omega
        obtain ⟨d, hd⟩ : ∃ d, d = l[i] := ⟨_, rfl⟩
        have hgt : (⟨l.toArray⟩ : ByteArray)[i]'hl = d := hd.symm
        by_cases h9 : i = 9
        · subst h9
          have hd9 : l.getD 9 0 = d := by rw [hd]; simp [List.getD, hl]
          by_cases h1 : 1 < d.toNat
          · have h1i : (1 : Int) < n8 d := by unfold n8; omega
            have hf : Hid (r = (3, 0, 0)) := by rw [hs.out, scan, dif_pos h10, if_neg (by omega), if_pos (by rw [hd9]; exact ⟨rfl, h1⟩)]; exact Lib.hid rfl
            clear hs hd hd9
            have hfl := Lib.hid (fail_any (l, 0) 3 w1)
            have hv : Hid (V = (([], 3), 0)) := by rw [hV.out, hf.out]; exact Lib.hid rfl
            clear hf
            go_wp2_with fail
            refine hfl.out.mono ?_
            rintro e w2 ⟨rfl, hgr⟩
            obtain ⟨f0, d0, f1, d1, hb3⟩ := (hb1.out.below hgr hb1.out.lt).pair (.string ⟨#[]⟩) (.int .i64 3)
            have d1' : w2.cell? ⟨w.heap.size + 1, 1, none⟩ = some (.int .i64 0) := (hb1.out.below hgr hb1.out.lt).cell 1
            have z0 := hb3.cell 0
            have z1 := hb3.cell 1
            have hge := Lib.hid (Below.setCell (Below.setCell (hg1.out.trans hgr) (p := ⟨w.heap.size + 1, 0, none⟩) (Nat.le_succ _) (.string ⟨#[]⟩)) (p := ⟨w.heap.size + 1, 1, none⟩) (Nat.le_succ _) (.int .i64 3))
            clear hgr hb3 hfl
            go_wp2
            refine bodyPost_ret (v := getRV (([], 3), 0)) (by simp [results, Tryd.results27, go_sem, z0, z1]) rfl ⟨by rw [hv.out], hge.out⟩
          · have h1i : ¬ (1 : Int) < n8 d := by unfold n8; omega
            have hst := scan_step (most := most.toNat) (nn := nn) h10 hl (by rw [← hd]; omega)
            rw [← hd] at hst
            obtain ⟨_, hb1', _⟩ := scan_or nn 9 d hnn (by omega) (by omega)
            have hadd := scan_add nn 9 d
            rw [← hs.out] at hst
            obtain ⟨m, hm⟩ : ∃ m, m = nn + 128 ^ 9 * (d.toNat % 128) := ⟨_, rfl⟩
            rw [← hm] at hst hadd hb1'
            have h128 : ¬ 128 ≤ d.toNat := by omega
            have h128i : n8 d < 128 := by unfold n8; omega
            have hadd9 : UInt64.ofNat nn + 9223372036854775808 * (d.toUInt64 % 128) = UInt64.ofNat m := hadd
            clear hs hd hd9 hm hadd
            by_cases h0 : d.toNat = 0 ∧ 0 < 9
            · have e0 : (n8 d == 0) = true := by simp [n8]; omega
              have hf : Hid (r = (3, 0, 0)) := by rw [hst, if_neg h128, if_pos h0]; exact Lib.hid rfl
              clear hst h0
              have hfl := Lib.hid (fail_any (l, 0) 3 w1)
              have hv : Hid (V = (([], 3), 0)) := by rw [hV.out, hf.out]; exact Lib.hid rfl
              clear hf
              go_wp2_with fail
              refine hfl.out.mono ?_
              rintro e w2 ⟨rfl, hgr⟩
              obtain ⟨f0, d0, f1, d1, hb3⟩ := (hb1.out.below hgr hb1.out.lt).pair (.string ⟨#[]⟩) (.int .i64 3)
              have d1' : w2.cell? ⟨w.heap.size + 1, 1, none⟩ = some (.int .i64 0) := (hb1.out.below hgr hb1.out.lt).cell 1
              have z0 := hb3.cell 0
              have z1 := hb3.cell 1
              have hge := Lib.hid (Below.setCell (Below.setCell (hg1.out.trans hgr) (p := ⟨w.heap.size + 1, 0, none⟩) (Nat.le_succ _) (.string ⟨#[]⟩)) (p := ⟨w.heap.size + 1, 1, none⟩) (Nat.le_succ _) (.int .i64 3))
              clear hgr hb3 hfl
              go_wp2
              refine bodyPost_ret (v := getRV (([], 3), 0)) (by simp [results, Tryd.results27, go_sem, z0, z1]) rfl ⟨by rw [hv.out], hge.out⟩
            · have hz : (n8 d == 0) = false := by simp [n8]; omega
              by_cases hm : most.toNat < m
              · have hf : Hid (r = (5, 0, 0)) := by rw [hst, if_neg h128, if_neg h0, if_pos hm]; exact Lib.hid rfl
                have hmi : n64 most < n64 (UInt64.ofNat m) := by unfold n64; rw [UInt64.toNat_ofNat', Nat.mod_eq_of_lt (show m < 2 ^ 64 from hb1')]; omega
                clear hst h0 hm
                have hfl := Lib.hid (fail_any (l, 0) 5 w1)
                have hv : Hid (V = (([], 5), 0)) := by rw [hV.out, hf.out]; exact Lib.hid rfl
                clear hf
                go_wp2_with fail
                refine hfl.out.mono ?_
                rintro e w2 ⟨rfl, hgr⟩
                obtain ⟨f0, d0, f1, d1, hb3⟩ := (hb1.out.below hgr hb1.out.lt).pair (.string ⟨#[]⟩) (.int .i64 5)
                have d1' : w2.cell? ⟨w.heap.size + 1, 1, none⟩ = some (.int .i64 0) := (hb1.out.below hgr hb1.out.lt).cell 1
                have z0 := hb3.cell 0
                have z1 := hb3.cell 1
                have hge := Lib.hid (Below.setCell (Below.setCell (hg1.out.trans hgr) (p := ⟨w.heap.size + 1, 0, none⟩) (Nat.le_succ _) (.string ⟨#[]⟩)) (p := ⟨w.heap.size + 1, 1, none⟩) (Nat.le_succ _) (.int .i64 5))
                clear hgr hb3 hfl
                go_wp2
                refine bodyPost_ret (v := getRV (([], 5), 0)) (by simp [results, Tryd.results27, go_sem, z0, z1]) rfl ⟨by rw [hv.out], hge.out⟩
              · have hf : Hid (r = (0, m, 9 + 1)) := by rw [hst, if_neg h128, if_neg h0, if_neg hm]; exact Lib.hid rfl
                have hmi : ¬ n64 most < n64 (UInt64.ofNat m) := by unfold n64; rw [UInt64.toNat_ofNat', Nat.mod_eq_of_lt (show m < 2 ^ 64 from hb1')]; omega
                clear hst h0 hm
                have hv : Hid (V = ((((l.drop 10).take (l.length - 10)), 0), m)) := by rw [hV.out, hf.out, List.take_of_length_le (by rw [List.length_drop]; exact Nat.le_refl _)]; exact Lib.hid rfl
                obtain ⟨f0, d0, f1, d1, hb3⟩ := hb1.out.pair (.string ⟨((l.drop 10).take (l.length - 10)).toArray⟩) (.int .i64 0)
                have d1' : w1.cell? ⟨w.heap.size + 1, 1, none⟩ = some (.int .i64 0) := hb1.out.cell 1
                have z0 := hb3.cell 0
                have z1 := hb3.cell 1
                have hge := Lib.hid (Below.setCell (Below.setCell hg1.out (p := ⟨w.heap.size + 1, 0, none⟩) (Nat.le_succ _) (.string ⟨((l.drop 10).take (l.length - 10)).toArray⟩)) (p := ⟨w.heap.size + 1, 1, none⟩) (Nat.le_succ _) (.int .i64 0))
                clear hf hb3
                go_wp2
                refine bodyPost_ret (v := getRV ((((l.drop 10).take (l.length - 10)), 0), m)) (by simp [results, Tryd.results27, go_sem, z0, z1]) rfl ⟨by rw [hv.out], hge.out⟩
        · have h9i : ¬ ((i : Int) = 9) := by omega
          have hst := scan_step (most := most.toNat) (nn := nn) h10 hl (by omega)
          rw [← hd] at hst
          obtain ⟨_, hb1', hb2⟩ := scan_or nn i d hnn (by omega) (by omega)
          have hadd := scan_add nn i d
          have hun := u128 i
          rw [← hs.out] at hst
          obtain ⟨m, hm⟩ : ∃ m, m = nn + 128 ^ i * (d.toNat % 128) := ⟨_, rfl⟩
          rw [← hm] at hst hadd hb1' hb2
          clear hs hd hm
          by_cases h128 : 128 ≤ d.toNat
          · have h128i : ¬ n8 d < 128 := by unfold n8; omega
            have hst2 : Hid (r = scan l most.toNat (i + 1) m) := by rw [hst, if_pos h128]; exact Lib.hid rfl
            clear hst
            go_wp2
            go_round
            case rel => exact ⟨i + 1, m, by omega, rfl, rfl, by go_num, hb2, hst2⟩
            case measure => simp [intOf]; omega
          · have h128i : n8 d < 128 := by unfold n8; omega
            by_cases h0 : d.toNat = 0 ∧ 0 < i
            · have e0 : (n8 d == 0) = true := by simp [n8]; omega
              have e1 : (0 : Int) < (i : Int) := by omega
              have hf : Hid (r = (3, 0, 0)) := by rw [hst, if_neg h128, if_pos h0]; exact Lib.hid rfl
              clear hst h0
              have hfl := Lib.hid (fail_any (l, 0) 3 w1)
              have hv : Hid (V = (([], 3), 0)) := by rw [hV.out, hf.out]; exact Lib.hid rfl
              clear hf
              go_wp2_with fail
              refine hfl.out.mono ?_
              rintro e w2 ⟨rfl, hgr⟩
              obtain ⟨f0, d0, f1, d1, hb3⟩ := (hb1.out.below hgr hb1.out.lt).pair (.string ⟨#[]⟩) (.int .i64 3)
              have d1' : w2.cell? ⟨w.heap.size + 1, 1, none⟩ = some (.int .i64 0) := (hb1.out.below hgr hb1.out.lt).cell 1
              have z0 := hb3.cell 0
              have z1 := hb3.cell 1
              have hge := Lib.hid (Below.setCell (Below.setCell (hg1.out.trans hgr) (p := ⟨w.heap.size + 1, 0, none⟩) (Nat.le_succ _) (.string ⟨#[]⟩)) (p := ⟨w.heap.size + 1, 1, none⟩) (Nat.le_succ _) (.int .i64 3))
              clear hgr hb3 hfl
              go_wp2
              refine bodyPost_ret (v := getRV (([], 3), 0)) (by simp [results, Tryd.results27, go_sem, z0, z1]) rfl ⟨by rw [hv.out], hge.out⟩
            · have hz : (n8 d == 0) = false ∨ ((n8 d == 0) = true ∧ ¬ (0 : Int) < (i : Int)) := by simp [n8]; omega
              by_cases hm : most.toNat < m
              · rcases hz with hz | ⟨hz, hz2⟩
                · have hf : Hid (r = (5, 0, 0)) := by rw [hst, if_neg h128, if_neg h0, if_pos hm]; exact Lib.hid rfl
                  have hmi : n64 most < n64 (UInt64.ofNat m) := by unfold n64; rw [UInt64.toNat_ofNat', Nat.mod_eq_of_lt (show m < 2 ^ 64 from hb1')]; omega
                  clear hst h0 hm
                  have hfl := Lib.hid (fail_any (l, 0) 5 w1)
                  have hv : Hid (V = (([], 5), 0)) := by rw [hV.out, hf.out]; exact Lib.hid rfl
                  clear hf
                  go_wp2_with fail
                  refine hfl.out.mono ?_
                  rintro e w2 ⟨rfl, hgr⟩
                  obtain ⟨f0, d0, f1, d1, hb3⟩ := (hb1.out.below hgr hb1.out.lt).pair (.string ⟨#[]⟩) (.int .i64 5)
                  have d1' : w2.cell? ⟨w.heap.size + 1, 1, none⟩ = some (.int .i64 0) := (hb1.out.below hgr hb1.out.lt).cell 1
                  have z0 := hb3.cell 0
                  have z1 := hb3.cell 1
                  have hge := Lib.hid (Below.setCell (Below.setCell (hg1.out.trans hgr) (p := ⟨w.heap.size + 1, 0, none⟩) (Nat.le_succ _) (.string ⟨#[]⟩)) (p := ⟨w.heap.size + 1, 1, none⟩) (Nat.le_succ _) (.int .i64 5))
                  clear hgr hb3 hfl
                  go_wp2
                  refine bodyPost_ret (v := getRV (([], 5), 0)) (by simp [results, Tryd.results27, go_sem, z0, z1]) rfl ⟨by rw [hv.out], hge.out⟩
                · have hf : Hid (r = (5, 0, 0)) := by rw [hst, if_neg h128, if_neg h0, if_pos hm]; exact Lib.hid rfl
                  have hmi : n64 most < n64 (UInt64.ofNat m) := by unfold n64; rw [UInt64.toNat_ofNat', Nat.mod_eq_of_lt (show m < 2 ^ 64 from hb1')]; omega
                  clear hst h0 hm
                  have hfl := Lib.hid (fail_any (l, 0) 5 w1)
                  have hv : Hid (V = (([], 5), 0)) := by rw [hV.out, hf.out]; exact Lib.hid rfl
                  clear hf
                  go_wp2_with fail
                  refine hfl.out.mono ?_
                  rintro e w2 ⟨rfl, hgr⟩
                  obtain ⟨f0, d0, f1, d1, hb3⟩ := (hb1.out.below hgr hb1.out.lt).pair (.string ⟨#[]⟩) (.int .i64 5)
                  have d1' : w2.cell? ⟨w.heap.size + 1, 1, none⟩ = some (.int .i64 0) := (hb1.out.below hgr hb1.out.lt).cell 1
                  have z0 := hb3.cell 0
                  have z1 := hb3.cell 1
                  have hge := Lib.hid (Below.setCell (Below.setCell (hg1.out.trans hgr) (p := ⟨w.heap.size + 1, 0, none⟩) (Nat.le_succ _) (.string ⟨#[]⟩)) (p := ⟨w.heap.size + 1, 1, none⟩) (Nat.le_succ _) (.int .i64 5))
                  clear hgr hb3 hfl
                  go_wp2
                  refine bodyPost_ret (v := getRV (([], 5), 0)) (by simp [results, Tryd.results27, go_sem, z0, z1]) rfl ⟨by rw [hv.out], hge.out⟩
              · rcases hz with hz | ⟨hz, hz2⟩
                · have hf : Hid (r = (0, m, i + 1)) := by rw [hst, if_neg h128, if_neg h0, if_neg hm]; exact Lib.hid rfl
                  have hmi : ¬ n64 most < n64 (UInt64.ofNat m) := by unfold n64; rw [UInt64.toNat_ofNat', Nat.mod_eq_of_lt (show m < 2 ^ 64 from hb1')]; omega
                  clear hst h0 hm
                  have hv : Hid (V = ((((l.drop (i + 1)).take (l.length - (i + 1))), 0), m)) := by rw [hV.out, hf.out, List.take_of_length_le (by rw [List.length_drop]; exact Nat.le_refl _)]; exact Lib.hid rfl
                  obtain ⟨f0, d0, f1, d1, hb3⟩ := hb1.out.pair (.string ⟨((l.drop (i + 1)).take (l.length - (i + 1))).toArray⟩) (.int .i64 0)
                  have d1' : w1.cell? ⟨w.heap.size + 1, 1, none⟩ = some (.int .i64 0) := hb1.out.cell 1
                  have z0 := hb3.cell 0
                  have z1 := hb3.cell 1
                  have hge := Lib.hid (Below.setCell (Below.setCell hg1.out (p := ⟨w.heap.size + 1, 0, none⟩) (Nat.le_succ _) (.string ⟨((l.drop (i + 1)).take (l.length - (i + 1))).toArray⟩)) (p := ⟨w.heap.size + 1, 1, none⟩) (Nat.le_succ _) (.int .i64 0))
                  clear hf hb3
                  go_wp2
                  refine bodyPost_ret (v := getRV ((((l.drop (i + 1)).take (l.length - (i + 1))), 0), m)) (by simp [results, Tryd.results27, go_sem, z0, z1]) rfl ⟨by rw [hv.out], hge.out⟩
                · have hf : Hid (r = (0, m, i + 1)) := by rw [hst, if_neg h128, if_neg h0, if_neg hm]; exact Lib.hid rfl
                  have hmi : ¬ n64 most < n64 (UInt64.ofNat m) := by unfold n64; rw [UInt64.toNat_ofNat', Nat.mod_eq_of_lt (show m < 2 ^ 64 from hb1')]; omega
                  clear hst h0 hm
                  have hv : Hid (V = ((((l.drop (i + 1)).take (l.length - (i + 1))), 0), m)) := by rw [hV.out, hf.out, List.take_of_length_le (by rw [List.length_drop]; exact Nat.le_refl _)]; exact Lib.hid rfl
                  obtain ⟨f0, d0, f1, d1, hb3⟩ := hb1.out.pair (.string ⟨((l.drop (i + 1)).take (l.length - (i + 1))).toArray⟩) (.int .i64 0)
                  have d1' : w1.cell? ⟨w.heap.size + 1, 1, none⟩ = some (.int .i64 0) := hb1.out.cell 1
                  have z0 := hb3.cell 0
                  have z1 := hb3.cell 1
                  have hge := Lib.hid (Below.setCell (Below.setCell hg1.out (p := ⟨w.heap.size + 1, 0, none⟩) (Nat.le_succ _) (.string ⟨((l.drop (i + 1)).take (l.length - (i + 1))).toArray⟩)) (p := ⟨w.heap.size + 1, 1, none⟩) (Nat.le_succ _) (.int .i64 0))
                  clear hf hb3
                  go_wp2
                  refine bodyPost_ret (v := getRV ((((l.drop (i + 1)).take (l.length - (i + 1))), 0), m)) (by simp [results, Tryd.results27, go_sem, z0, z1]) rfl ⟨by rw [hv.out], hge.out⟩
      · have hli : (l.length : Int) ≤ (i : Int) := by omega
        have hf : Hid (r = (4, 0, 0)) := by rw [hs.out, scan, dif_pos h10, if_pos (by omega)]; exact Lib.hid rfl
        clear hs
        have hfl := Lib.hid (fail_any (l, 0) 4 w1)
        have hv : Hid (V = (([], 4), 0)) := by rw [hV.out, hf.out]; exact Lib.hid rfl
        clear hf
        go_wp2_with fail
        refine hfl.out.mono ?_
        rintro e w2 ⟨rfl, hgr⟩
        obtain ⟨f0, d0, f1, d1, hb3⟩ := (hb1.out.below hgr hb1.out.lt).pair (.string ⟨#[]⟩) (.int .i64 4)
        have d1' : w2.cell? ⟨w.heap.size + 1, 1, none⟩ = some (.int .i64 0) := (hb1.out.below hgr hb1.out.lt).cell 1
        have z0 := hb3.cell 0
        have z1 := hb3.cell 1
        have hge := Lib.hid (Below.setCell (Below.setCell (hg1.out.trans hgr) (p := ⟨w.heap.size + 1, 0, none⟩) (Nat.le_succ _) (.string ⟨#[]⟩)) (p := ⟨w.heap.size + 1, 1, none⟩) (Nat.le_succ _) (.int .i64 4))
        clear hgr hb3 hfl
        go_wp2
        refine bodyPost_ret (v := getRV (([], 4), 0)) (by simp [results, Tryd.results27, go_sem, z0, z1]) rfl ⟨by rw [hv.out], hge.out⟩
    · have h10i : ¬ (i : Int) < 10 := by omega
      have hf : Hid (r = (3, 0, 0)) := by rw [hs.out, scan, dif_neg h10]; exact Lib.hid rfl
      clear hs
      have hfl := Lib.hid (fail_any (l, 0) 3 w1)
      have hv : Hid (V = (([], 3), 0)) := by rw [hV.out, hf.out]; exact Lib.hid rfl
      clear hf
      go_wp2_with fail
      refine hfl.out.mono ?_
      rintro e w2 ⟨rfl, hgr⟩
      obtain ⟨f0, d0, f1, d1, hb3⟩ := (hb1.out.below hgr hb1.out.lt).pair (.string ⟨#[]⟩) (.int .i64 3)
      have d1' : w2.cell? ⟨w.heap.size + 1, 1, none⟩ = some (.int .i64 0) := (hb1.out.below hgr hb1.out.lt).cell 1
      have z0 := hb3.cell 0
      have z1 := hb3.cell 1
      have hge := Lib.hid (Below.setCell (Below.setCell (hg1.out.trans hgr) (p := ⟨w.heap.size + 1, 0, none⟩) (Nat.le_succ _) (.string ⟨#[]⟩)) (p := ⟨w.heap.size + 1, 1, none⟩) (Nat.le_succ _) (.int .i64 3))
      clear hgr hb3 hfl
      go_wp2
      refine bodyPost_ret (v := getRV (([], 3), 0)) (by simp [results, Tryd.results27, go_sem, z0, z1]) rfl ⟨by rw [hv.out], hge.out⟩
theorem refGet_any (s : RS) (most : UInt64) (w : World) (hsz : s.1.length ≤ 1099511627776) : Calls Tryd.prog 27 #[rsV s, .int .u64 (n64 most)] w fun e w' => e = .returned (getRV (get s most.toNat)) ∧ Gr w w' := by
  by_cases he : s.2 = 0
  · obtain ⟨l, er⟩ := s
    obtain rfl : er = 0 := he
    exact refGet_ok l most w hsz
  · have hci : ((s.2 : Int) == 0) = false := by simp; omega
    rw [get_err he]
    have hb1 := Blk.new (w.alloc (.cells #[.string ⟨s.1.toArray⟩, .int .i64 (s.2 : Int)] 57)) 57 #[.string ⟨s.1.toArray⟩, .int .i64 (s.2 : Int)]
    rw [World.size_alloc] at hb1
    have hg1 := Lib.hid (((Gr.refl w).alloc (.cells #[.string ⟨s.1.toArray⟩, .int .i64 (s.2 : Int)] 57)).alloc (.cells #[.string ⟨s.1.toArray⟩, .int .i64 (s.2 : Int)] 57))
    have z0 := hb1.cell 0
    have z1 := hb1.cell 1
    clear hb1 he
    go_enter Tryd.func27, Tryd.ntmps27
    go_wp2
    refine bodyPost_ret (v := getRV (s, 0)) (by simp [results, Tryd.results27, go_sem, z0, z1]) rfl ⟨rfl, hg1.out⟩
end Vint
end Go.Proofs.YtgkcbhijkcbjkaaDoor

