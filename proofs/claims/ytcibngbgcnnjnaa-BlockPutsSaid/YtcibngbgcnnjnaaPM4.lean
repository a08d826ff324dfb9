/- Texts that the law rests on, merged. No condition. -/
import Derived.Test.YtcibngbgcnnjnaaPM1
import Derived.Test.YtcibngbgcnnjnaaPM2
import Derived.Test.YtcibngbgcnnjnaaPM3
set_option linter.unusedVariables false
set_option linter.unusedSimpArgs false
namespace Go.Proofs.Ytcibngbgcnnjnaa
open Go Go.RowKit W
namespace Vint
/-- The reference's reader, as a value. -/
abbrev rsV (s : RS) : Value := .agg #[.string ⟨s.1.toArray⟩, .int .i64 (s.2 : Int)]
theorem fail_any (s : RS) (code : Nat) (w : World) : Calls Try.prog 57 #[rsV s, .int .i64 (code : Int)] w fun e w' => e = .returned (rsV ([], code)) ∧ Gr w w' := by
  have hb := (Blk.new (w.alloc (.cells #[.string ⟨s.1.toArray⟩, .int .i64 (s.2 : Int)] 77)) 77 #[.string ⟨#[]⟩, .int .i64 (code : Int)])
  have hg := Lib.hid (((Gr.refl w).alloc (.cells #[.string ⟨s.1.toArray⟩, .int .i64 (s.2 : Int)] 77)).alloc (.cells #[.string ⟨#[]⟩, .int .i64 (code : Int)] 77))
  rw [World.size_alloc] at hb
  have z0 := hb.cell 0
  have z1 := hb.cell 1
  clear hb
  go_enter Try.func57, Try.ntmps57
  go_wp2
  exact bodyPost_ret (v := rsV ([], code)) (by simp [results, Try.results57, go_sem, z0, z1]) rfl ⟨rfl, hg.out⟩
theorem u128 (i : Nat) : UInt64.ofNat (128 ^ i) * 128 = UInt64.ofNat (128 ^ (i + 1)) := by
  rw [Nat.pow_succ, UInt64.ofNat_mul]
  rfl
theorem scan_add (nn i : Nat) (c : UInt8) : UInt64.ofNat nn + UInt64.ofNat (128 ^ i) * (c.toUInt64 % 128) = UInt64.ofNat (nn + 128 ^ i * (c.toNat % 128)) := by
  rw [UInt64.ofNat_add, UInt64.ofNat_mul]
  congr 2
  apply UInt64.toNat_inj.1
  have h : c.toNat % 128 < 128 := Nat.mod_lt _ (by omega)
  rw [UInt64.toNat_ofNat', Nat.mod_eq_of_lt (show _ < 2 ^ 64 by omega), UInt64.toNat_mod]
  simp
/-- What the reference's read of a number hands back. -/
abbrev getRV (r : RS × Nat) : Value := .tuple #[rsV r.1, .int .u64 (n64 (UInt64.ofNat r.2))]
set_option maxRecDepth 100000 in
set_option maxHeartbeats 8000000 in
theorem refGet_ok (l : List UInt8) (most : UInt64) (w : World) (hsz : l.length ≤ 1099511627776) : Calls Try.prog 40 #[rsV (l, 0), .int .u64 (n64 most)] w fun e w' => e = .returned (getRV (get (l, 0) most.toNat)) ∧ Gr w w' := by
  obtain ⟨w1, hw1⟩ : ∃ w1, w1 = (w.alloc (.cells #[.string ⟨l.toArray⟩, .int .i64 0] 77)).alloc (.cells #[.string ⟨#[]⟩, .int .i64 0] 77) := ⟨_, rfl⟩
  have hb0 := (Blk.new w 77 #[.string ⟨l.toArray⟩, .int .i64 0]).alloc (.cells #[.string ⟨#[]⟩, .int .i64 0] 77)
  have hb1 := Blk.new (w.alloc (.cells #[.string ⟨l.toArray⟩, .int .i64 0] 77)) 77 #[.string ⟨#[]⟩, .int .i64 0]
  rw [World.size_alloc] at hb1
  have hg1 := ((Gr.refl w).alloc (.cells #[.string ⟨l.toArray⟩, .int .i64 0] 77)).alloc (.cells #[.string ⟨#[]⟩, .int .i64 0] 77)
  rw [← hw1] at hb0 hb1 hg1
  have q0 : w1.cell? ⟨w.heap.size, 0, none⟩ = some (.string ⟨l.toArray⟩) := hb0.cell 0
  have q1 : w1.cell? ⟨w.heap.size, 1, none⟩ = some (.int .i64 0) := hb0.cell 1
  rw [get_ok]
  obtain ⟨r, hrr⟩ : ∃ r, r = scan l most.toNat 0 0 := ⟨_, rfl⟩
  rw [← hrr]
  obtain ⟨V, hV⟩ : ∃ V : RS × Nat, V = ((if r.1 = 0 then left l r else [], r.1), r.2.1) := ⟨_, rfl⟩
  rw [← hV]
  replace hV := Lib.hid hV
  replace hrr := Lib.hid hrr
  replace hb1 := Lib.hid hb1
  replace hg1 := Lib.hid hg1
  replace hw1 := Lib.hid hw1
  clear hb0
  go_enter Try.func40, Try.ntmps40
  go_wp2_with fail
  rw [← hw1.out]
  go_loop [6, 7, 8] (fun x u j => ∃ (i nn : Nat), i ≤ 10 ∧ x = .int .u64 (n64 (UInt64.ofNat nn)) ∧ u = .int .u64 (n64 (UInt64.ofNat (128 ^ i))) ∧ j = .int .i64 (i : Int) ∧ nn < 128 ^ i ∧ Hid (r = scan l most.toNat i nn)) (fun _ _ j => 10 - (intOf j).toNat)
  case atStart => exact ⟨0, 0, by omega, rfl, rfl, rfl, by omega, hrr⟩
  case round =>
    obtain ⟨i, nn, hi, rfl, rfl, rfl, hnn, hs⟩ := hrel
    by_cases h10 : i < 10
    · have h10i : (i : Int) < 10 := by omega
      by_cases hl : i < l.length
      · have hnei : ¬ ((l.length : Int) ≤ (i : Int)) := by omega
        obtain ⟨d, hd⟩ : ∃ d, d = l[i] := ⟨_, rfl⟩
        have hgt : (⟨l.toArray⟩ : ByteArray)[i]'hl = d := hd.symm
        by_cases h9 : i = 9
        · subst h9
          have hd9 : l.getD 9 0 = d := by rw [hd]; simp [List.getD, hl]
          by_cases h1 : 1 < d.toNat
          · have h1i : (1 : Int) < n8 d := by unfold n8; omega
            have hf : Hid (r = (3, 0, 0)) := by rw [hs.out, scan, dif_pos h10, if_neg (by omega), if_pos (by rw [hd9]; exact ⟨rfl, h1⟩)]; exact Lib.hid rfl
            clear hs hd hd9
            have hfl := Lib.hid (fail_any (l, 0) 3 w1)
            have hv : Hid (V = (([], 3), 0)) := by rw [hV.out, hf.out]; exact Lib.hid rfl
            clear hf
            go_wp2_with fail
            refine hfl.out.mono ?_
            rintro e w2 ⟨rfl, hgr⟩
            obtain ⟨f0, d0, f1, d1, hb3⟩ := (hb1.out.below hgr hb1.out.lt).pair (.string ⟨#[]⟩) (.int .i64 3)
            have d1' : w2.cell? ⟨w.heap.size + 1, 1, none⟩ = some (.int .i64 0) := (hb1.out.below hgr hb1.out.lt).cell 1
            have z0 := hb3.cell 0
            have z1 := hb3.cell 1
            have hge := Lib.hid (Below.setCell (Below.setCell (hg1.out.trans hgr) (p := ⟨w.heap.size + 1, 0, none⟩) (Nat.le_succ _) (.string ⟨#[]⟩)) (p := ⟨w.heap.size + 1, 1, none⟩) (Nat.le_succ _) (.int .i64 3))
            clear hgr hb3 hfl
            go_wp2
            refine bodyPost_ret (v := getRV (([], 3), 0)) (by simp [results, Try.results40, go_sem, z0, z1]) rfl ⟨by rw [hv.out], hge.out⟩
          · have h1i : ¬ (1 : Int) < n8 d := by unfold n8; omega
            have hst := scan_step (most := most.toNat) (nn := nn) h10 hl (by rw [← hd]; omega)
            rw [← hd] at hst
            obtain ⟨_, hb1', _⟩ := scan_or nn 9 d hnn (by omega) (by omega)
            have hadd := scan_add nn 9 d
            rw [← hs.out] at hst
            obtain ⟨m, hm⟩ : ∃ m, m = nn + 128 ^ 9 * (d.toNat % 128) := ⟨_, rfl⟩
            rw [← hm] at hst hadd hb1'
            have h128 : ¬ 128 ≤ d.toNat := by omega
            have h128i : n8 d < 128 := by unfold n8; omega
            have hadd9 : UInt64.ofNat nn + 9223372036854775808 * (d.toUInt64 % 128) = UInt64.ofNat m := hadd
            clear hs hd hd9 hm hadd
            by_cases h0 : d.toNat = 0 ∧ 0 < 9
            · have e0 : (n8 d == 0) = true := by simp [n8]; omega
              have hf : Hid (r = (3, 0, 0)) := by rw [hst, if_neg h128, if_pos h0]; exact Lib.hid rfl
              clear hst h0
              have hfl := Lib.hid (fail_any (l, 0) 3 w1)
              have hv : Hid (V = (([], 3), 0)) := by rw [hV.out, hf.out]; exact Lib.hid rfl
              clear hf
              go_wp2_with fail
              refine hfl.out.mono ?_
              rintro e w2 ⟨rfl, hgr⟩
              obtain ⟨f0, d0, f1, d1, hb3⟩ := (hb1.out.below hgr hb1.out.lt).pair (.string ⟨#[]⟩) (.int .i64 3)
              have d1' : w2.cell? ⟨w.heap.size + 1, 1, none⟩ = some (.int .i64 0) := (hb1.out.below hgr hb1.out.lt).cell 1
              have z0 := hb3.cell 0
              have z1 := hb3.cell 1
              have hge := Lib.hid (Below.setCell (Below.setCell (hg1.out.trans hgr) (p := ⟨w.heap.size + 1, 0, none⟩) (Nat.le_succ _) (.string ⟨#[]⟩)) (p := ⟨w.heap.size + 1, 1, none⟩) (Nat.le_succ _) (.int .i64 3))
              clear hgr hb3 hfl
              go_wp2
              refine bodyPost_ret (v := getRV (([], 3), 0)) (by simp [results, Try.results40, go_sem, z0, z1]) rfl ⟨by rw [hv.out], hge.out⟩
            · have hz : (n8 d == 0) = false := by simp [n8]; omega
              by_cases hm : most.toNat < m
              · have hf : Hid (r = (5, 0, 0)) := by rw [hst, if_neg h128, if_neg h0, if_pos hm]; exact Lib.hid rfl
                have hmi : n64 most < n64 (UInt64.ofNat m) := by unfold n64; rw [UInt64.toNat_ofNat', Nat.mod_eq_of_lt (show m < 2 ^ 64 from hb1')]; omega
                clear hst h0 hm
                have hfl := Lib.hid (fail_any (l, 0) 5 w1)
                have hv : Hid (V = (([], 5), 0)) := by rw [hV.out, hf.out]; exact Lib.hid rfl
                clear hf
                go_wp2_with fail
                refine hfl.out.mono ?_
                rintro e w2 ⟨rfl, hgr⟩
                obtain ⟨f0, d0, f1, d1, hb3⟩ := (hb1.out.below hgr hb1.out.lt).pair (.string ⟨#[]⟩) (.int .i64 5)
                have d1' : w2.cell? ⟨w.heap.size + 1, 1, none⟩ = some (.int .i64 0) := (hb1.out.below hgr hb1.out.lt).cell 1
                have z0 := hb3.cell 0
                have z1 := hb3.cell 1
                have hge := Lib.hid (Below.setCell (Below.setCell (hg1.out.trans hgr) (p := ⟨w.heap.size + 1, 0, none⟩) (Nat.le_succ _) (.string ⟨#[]⟩)) (p := ⟨w.heap.size + 1, 1, none⟩) (Nat.le_succ _) (.int .i64 5))
                clear hgr hb3 hfl
                go_wp2
                refine bodyPost_ret (v := getRV (([], 5), 0)) (by simp [results, Try.results40, go_sem, z0, z1]) rfl ⟨by rw [hv.out], hge.out⟩
              · have hf : Hid (r = (0, m, 9 + 1)) := by rw [hst, if_neg h128, if_neg h0, if_neg hm]; exact Lib.hid rfl
                have hmi : ¬ n64 most < n64 (UInt64.ofNat m) := by unfold n64; rw [UInt64.toNat_ofNat', Nat.mod_eq_of_lt (show m < 2 ^ 64 from hb1')]; omega
                clear hst h0 hm
                have hv : Hid (V = ((((l.drop 10).take (l.length - 10)), 0), m)) := by rw [hV.out, hf.out, List.take_of_length_le (by rw [List.length_drop]; exact Nat.le_refl _)]; exact Lib.hid rfl
                obtain ⟨f0, d0, f1, d1, hb3⟩ := hb1.out.pair (.string ⟨((l.drop 10).take (l.length - 10)).toArray⟩) (.int .i64 0)
                have d1' : w1.cell? ⟨w.heap.size + 1, 1, none⟩ = some (.int .i64 0) := hb1.out.cell 1
                have z0 := hb3.cell 0
                have z1 := hb3.cell 1
                have hge := Lib.hid (Below.setCell (Below.setCell hg1.out (p := ⟨w.heap.size + 1, 0, none⟩) (Nat.le_succ _) (.string ⟨((l.drop 10).take (l.length - 10)).toArray⟩)) (p := ⟨w.heap.size + 1, 1, none⟩) (Nat.le_succ _) (.int .i64 0))
                clear hf hb3
                go_wp2
                refine bodyPost_ret (v := getRV ((((l.drop 10).take (l.length - 10)), 0), m)) (by simp [results, Try.results40, go_sem, z0, z1]) rfl ⟨by rw [hv.out], hge.out⟩
        · have h9i : ¬ ((i : Int) = 9) := by omega
          have hst := scan_step (most := most.toNat) (nn := nn) h10 hl (by omega)
          rw [← hd] at hst
          obtain ⟨_, hb1', hb2⟩ := scan_or nn i d hnn (by omega) (by omega)
          have hadd := scan_add nn i d
          have hun := u128 i
          rw [← hs.out] at hst
          obtain ⟨m, hm⟩ : ∃ m, m = nn + 128 ^ i * (d.toNat % 128) := ⟨_, rfl⟩
          rw [← hm] at hst hadd hb1' hb2
          clear hs hd hm
          by_cases h128 : 128 ≤ d.toNat
          · have h128i : ¬ n8 d < 128 := by unfold n8; omega
            have hst2 : Hid (r = scan l most.toNat (i + 1) m) := by rw [hst, if_pos h128]; exact Lib.hid rfl
            clear hst
            go_wp2
            go_round
            case rel => exact ⟨i + 1, m, by omega, rfl, rfl, by go_num, hb2, hst2⟩
            case measure => simp [intOf]; omega
          · have h128i : n8 d < 128 := by unfold n8; omega
            by_cases h0 : d.toNat = 0 ∧ 0 < i
            · have e0 : (n8 d == 0) = true := by simp [n8]; omega
              have e1 : (0 : Int) < (i : Int) := by omega
              have hf : Hid (r = (3, 0, 0)) := by rw [hst, if_neg h128, if_pos h0]; exact Lib.hid rfl
              clear hst h0
              have hfl := Lib.hid (fail_any (l, 0) 3 w1)
              have hv : Hid (V = (([], 3), 0)) := by rw [hV.out, hf.out]; exact Lib.hid rfl
              clear hf
              go_wp2_with fail
              refine hfl.out.mono ?_
              rintro e w2 ⟨rfl, hgr⟩
              obtain ⟨f0, d0, f1, d1, hb3⟩ := (hb1.out.below hgr hb1.out.lt).pair (.string ⟨#[]⟩) (.int .i64 3)
              have d1' : w2.cell? ⟨w.heap.size + 1, 1, none⟩ = some (.int .i64 0) := (hb1.out.below hgr hb1.out.lt).cell 1
              have z0 := hb3.cell 0
              have z1 := hb3.cell 1
              have hge := Lib.hid (Below.setCell (Below.setCell (hg1.out.trans hgr) (p := ⟨w.heap.size + 1, 0, none⟩) (Nat.le_succ _) (.string ⟨#[]⟩)) (p := ⟨w.heap.size + 1, 1, none⟩) (Nat.le_succ _) (.int .i64 3))
              clear hgr hb3 hfl
              go_wp2
              refine bodyPost_ret (v := getRV (([], 3), 0)) (by simp [results, Try.results40, go_sem, z0, z1]) rfl ⟨by rw [hv.out], hge.out⟩
            · have hz : (n8 d == 0) = false ∨ ((n8 d == 0) = true ∧ ¬ (0 : Int) < (i : Int)) := by simp [n8]; omega
              by_cases hm : most.toNat < m
              · rcases hz with hz | ⟨hz, hz2⟩
                · have hf : Hid (r = (5, 0, 0)) := by rw [hst, if_neg h128, if_neg h0, if_pos hm]; exact Lib.hid rfl
                  have hmi : n64 most < n64 (UInt64.ofNat m) := by unfold n64; rw [UInt64.toNat_ofNat', Nat.mod_eq_of_lt (show m < 2 ^ 64 from hb1')]; omega
                  clear hst h0 hm
                  have hfl := Lib.hid (fail_any (l, 0) 5 w1)
                  have hv : Hid (V = (([], 5), 0)) := by rw [hV.out, hf.out]; exact Lib.hid rfl
                  clear hf
                  go_wp2_with fail
                  refine hfl.out.mono ?_
                  rintro e w2 ⟨rfl, hgr⟩
                  obtain ⟨f0, d0, f1, d1, hb3⟩ := (hb1.out.below hgr hb1.out.lt).pair (.string ⟨#[]⟩) (.int .i64 5)
                  have d1' : w2.cell? ⟨w.heap.size + 1, 1, none⟩ = some (.int .i64 0) := (hb1.out.below hgr hb1.out.lt).cell 1
                  have z0 := hb3.cell 0
                  have z1 := hb3.cell 1
                  have hge := Lib.hid (Below.setCell (Below.setCell (hg1.out.trans hgr) (p := ⟨w.heap.size + 1, 0, none⟩) (Nat.le_succ _) (.string ⟨#[]⟩)) (p := ⟨w.heap.size + 1, 1, none⟩) (Nat.le_succ _) (.int .i64 5))
                  clear hgr hb3 hfl
                  go_wp2
                  refine bodyPost_ret (v := getRV (([], 5), 0)) (by simp [results, Try.results40, go_sem, z0, z1]) rfl ⟨by rw [hv.out], hge.out⟩
                · have hf : Hid (r = (5, 0, 0)) := by rw [hst, if_neg h128, if_neg h0, if_pos hm]; exact Lib.hid rfl
                  have hmi : n64 most < n64 (UInt64.ofNat m) := by unfold n64; rw [UInt64.toNat_ofNat', Nat.mod_eq_of_lt (show m < 2 ^ 64 from hb1')]; omega
                  clear hst h0 hm
                  have hfl := Lib.hid (fail_any (l, 0) 5 w1)
                  have hv : Hid (V = (([], 5), 0)) := by rw [hV.out, hf.out]; exact Lib.hid rfl
                  clear hf
                  go_wp2_with fail
                  refine hfl.out.mono ?_
                  rintro e w2 ⟨rfl, hgr⟩
                  obtain ⟨f0, d0, f1, d1, hb3⟩ := (hb1.out.below hgr hb1.out.lt).pair (.string ⟨#[]⟩) (.int .i64 5)
                  have d1' : w2.cell? ⟨w.heap.size + 1, 1, none⟩ = some (.int .i64 0) := (hb1.out.below hgr hb1.out.lt).cell 1
                  have z0 := hb3.cell 0
                  have z1 := hb3.cell 1
                  have hge := Lib.hid (Below.setCell (Below.setCell (hg1.out.trans hgr) (p := ⟨w.heap.size + 1, 0, none⟩) (Nat.le_succ _) (.string ⟨#[]⟩)) (p := ⟨w.heap.size + 1, 1, none⟩) (Nat.le_succ _) (.int .i64 5))
                  clear hgr hb3 hfl
                  go_wp2
                  refine bodyPost_ret (v := getRV (([], 5), 0)) (by simp [results, Try.results40, go_sem, z0, z1]) rfl ⟨by rw [hv.out], hge.out⟩
              · rcases hz with hz | ⟨hz, hz2⟩
                · have hf : Hid (r = (0, m, i + 1)) := by rw [hst, if_neg h128, if_neg h0, if_neg hm]; exact Lib.hid rfl
                  have hmi : ¬ n64 most < n64 (UInt64.ofNat m) := by unfold n64; rw [UInt64.toNat_ofNat', Nat.mod_eq_of_lt (show m < 2 ^ 64 from hb1')]; omega
                  clear hst h0 hm
                  have hv : Hid (V = ((((l.drop (i + 1)).take (l.length - (i + 1))), 0), m)) := by rw [hV.out, hf.out, List.take_of_length_le (by rw [List.length_drop]; exact Nat.le_refl _)]; exact Lib.hid rfl
                  obtain ⟨f0, d0, f1, d1, hb3⟩ := hb1.out.pair (.string ⟨((l.drop (i + 1)).take (l.length - (i + 1))).toArray⟩) (.int .i64 0)
                  have d1' : w1.cell? ⟨w.heap.size + 1, 1, none⟩ = some (.int .i64 0) := hb1.out.cell 1
                  have z0 := hb3.cell 0
                  have z1 := hb3.cell 1
                  have hge := Lib.hid (Below.setCell (Below.setCell hg1.out (p := ⟨w.heap.size + 1, 0, none⟩) (Nat.le_succ _) (.string ⟨((l.drop (i + 1)).take (l.length - (i + 1))).toArray⟩)) (p := ⟨w.heap.size + 1, 1, none⟩) (Nat.le_succ _) (.int .i64 0))
                  clear hf hb3
                  go_wp2
                  refine bodyPost_ret (v := getRV ((((l.drop (i + 1)).take (l.length - (i + 1))), 0), m)) (by simp [results, Try.results40, go_sem, z0, z1]) rfl ⟨by rw [hv.out], hge.out⟩
                · have hf : Hid (r = (0, m, i + 1)) := by rw [hst, if_neg h128, if_neg h0, if_neg hm]; exact Lib.hid rfl
                  have hmi : ¬ n64 most < n64 (UInt64.ofNat m) := by unfold n64; rw [UInt64.toNat_ofNat', Nat.mod_eq_of_lt (show m < 2 ^ 64 from hb1')]; omega
                  clear hst h0 hm
                  have hv : Hid (V = ((((l.drop (i + 1)).take (l.length - (i + 1))), 0), m)) := by rw [hV.out, hf.out, List.take_of_length_le (by rw [List.length_drop]; exact Nat.le_refl _)]; exact Lib.hid rfl
                  obtain ⟨f0, d0, f1, d1, hb3⟩ := hb1.out.pair (.string ⟨((l.drop (i + 1)).take (l.length - (i + 1))).toArray⟩) (.int .i64 0)
                  have d1' : w1.cell? ⟨w.heap.size + 1, 1, none⟩ = some (.int .i64 0) := hb1.out.cell 1
                  have z0 := hb3.cell 0
                  have z1 := hb3.cell 1
                  have hge := Lib.hid (Below.setCell (Below.setCell hg1.out (p := ⟨w.heap.size + 1, 0, none⟩) (Nat.le_succ _) (.string ⟨((l.drop (i + 1)).take (l.length - (i + 1))).toArray⟩)) (p := ⟨w.heap.size + 1, 1, none⟩) (Nat.le_succ _) (.int .i64 0))
                  clear hf hb3
                  go_wp2
                  refine bodyPost_ret (v := getRV ((((l.drop (i + 1)).take (l.length - (i + 1))), 0), m)) (by simp [results, Try.results40, go_sem, z0, z1]) rfl ⟨by rw [hv.out], hge.out⟩
      · have hli : (l.length : Int) ≤ (i : Int) := by omega
        have hf : Hid (r = (4, 0, 0)) := by rw [hs.out, scan, dif_pos h10, if_pos (by omega)]; exact Lib.hid rfl
        clear hs
        have hfl := Lib.hid (fail_any (l, 0) 4 w1)
        have hv : Hid (V = (([], 4), 0)) := by rw [hV.out, hf.out]; exact Lib.hid rfl
        clear hf
        go_wp2_with fail
        refine hfl.out.mono ?_
        rintro e w2 ⟨rfl, hgr⟩
        obtain ⟨f0, d0, f1, d1, hb3⟩ := (hb1.out.below hgr hb1.out.lt).pair (.string ⟨#[]⟩) (.int .i64 4)
        have d1' : w2.cell? ⟨w.heap.size + 1, 1, none⟩ = some (.int .i64 0) := (hb1.out.below hgr hb1.out.lt).cell 1
        have z0 := hb3.cell 0
        have z1 := hb3.cell 1
        have hge := Lib.hid (Below.setCell (Below.setCell (hg1.out.trans hgr) (p := ⟨w.heap.size + 1, 0, none⟩) (Nat.le_succ _) (.string ⟨#[]⟩)) (p := ⟨w.heap.size + 1, 1, none⟩) (Nat.le_succ _) (.int .i64 4))
        clear hgr hb3 hfl
        go_wp2
        refine bodyPost_ret (v := getRV (([], 4), 0)) (by simp [results, Try.results40, go_sem, z0, z1]) rfl ⟨by rw [hv.out], hge.out⟩
    · have h10i : ¬ (i : Int) < 10 := by omega
      have hf : Hid (r = (3, 0, 0)) := by rw [hs.out, scan, dif_neg h10]; exact Lib.hid rfl
      clear hs
      have hfl := Lib.hid (fail_any (l, 0) 3 w1)
      have hv : Hid (V = (([], 3), 0)) := by rw [hV.out, hf.out]; exact Lib.hid rfl
      clear hf
      go_wp2_with fail
      refine hfl.out.mono ?_
      rintro e w2 ⟨rfl, hgr⟩
      obtain ⟨f0, d0, f1, d1, hb3⟩ := (hb1.out.below hgr hb1.out.lt).pair (.string ⟨#[]⟩) (.int .i64 3)
      have d1' : w2.cell? ⟨w.heap.size + 1, 1, none⟩ = some (.int .i64 0) := (hb1.out.below hgr hb1.out.lt).cell 1
      have z0 := hb3.cell 0
      have z1 := hb3.cell 1
      have hge := Lib.hid (Below.setCell (Below.setCell (hg1.out.trans hgr) (p := ⟨w.heap.size + 1, 0, none⟩) (Nat.le_succ _) (.string ⟨#[]⟩)) (p := ⟨w.heap.size + 1, 1, none⟩) (Nat.le_succ _) (.int .i64 3))
      clear hgr hb3 hfl
      go_wp2
      refine bodyPost_ret (v := getRV (([], 3), 0)) (by simp [results, Try.results40, go_sem, z0, z1]) rfl ⟨by rw [hv.out], hge.out⟩
theorem refGet_any (s : RS) (most : UInt64) (w : World) (hsz : s.1.length ≤ 1099511627776) : Calls Try.prog 40 #[rsV s, .int .u64 (n64 most)] w fun e w' => e = .returned (getRV (get s most.toNat)) ∧ Gr w w' := by
  by_cases he : s.2 = 0
  · obtain ⟨l, er⟩ := s
    obtain rfl : er = 0 := he
    exact refGet_ok l most w hsz
  · have hci : ((s.2 : Int) == 0) = false := by simp; omega
    rw [get_err he]
    have hb1 := Blk.new (w.alloc (.cells #[.string ⟨s.1.toArray⟩, .int .i64 (s.2 : Int)] 77)) 77 #[.string ⟨s.1.toArray⟩, .int .i64 (s.2 : Int)]
    rw [World.size_alloc] at hb1
    have hg1 := Lib.hid (((Gr.refl w).alloc (.cells #[.string ⟨s.1.toArray⟩, .int .i64 (s.2 : Int)] 77)).alloc (.cells #[.string ⟨s.1.toArray⟩, .int .i64 (s.2 : Int)] 77))
    have z0 := hb1.cell 0
    have z1 := hb1.cell 1
    clear hb1 he
    go_enter Try.func40, Try.ntmps40
    go_wp2
    refine bodyPost_ret (v := getRV (s, 0)) (by simp [results, Try.results40, go_sem, z0, z1]) rfl ⟨rfl, hg1.out⟩
end Vint
end Go.Proofs.Ytcibngbgcnnjnaa
namespace Go.Proofs.Ytcibngbgcnnjnaa
open Go Go.RowKit W
namespace Vint
abbrev getIV (r : RS × Nat) : Value := .tuple #[rsV r.1, .int .i64 (r.2 : Int)]
theorem refInt_of (s : RS) (most : Int) (m : Nat) (w : World) (hm : m ≤ 9223372036854775807) (hcase : (most = (m : Int)) ∨ (most < 0 ∧ m = 0)) (hsz : s.1.length ≤ 1099511627776) : Calls Try.prog 39 #[rsV s, .int .i64 most] w fun e w' => e = .returned (getIV (get s m)) ∧ Gr w w' := by
  obtain ⟨w1, hw1⟩ : ∃ w1, w1 = (w.alloc (.cells #[.string ⟨s.1.toArray⟩, .int .i64 (s.2 : Int)] 77)).alloc (.cells #[.string ⟨#[]⟩, .int .i64 0] 77) := ⟨_, rfl⟩
  have hb0 := (Blk.new w 77 #[.string ⟨s.1.toArray⟩, .int .i64 (s.2 : Int)]).alloc (.cells #[.string ⟨#[]⟩, .int .i64 0] 77)
  have hb1 := Blk.new (w.alloc (.cells #[.string ⟨s.1.toArray⟩, .int .i64 (s.2 : Int)] 77)) 77 #[.string ⟨#[]⟩, .int .i64 0]
  rw [World.size_alloc] at hb1
  have hg1 := ((Gr.refl w).alloc (.cells #[.string ⟨s.1.toArray⟩, .int .i64 (s.2 : Int)] 77)).alloc (.cells #[.string ⟨#[]⟩, .int .i64 0] 77)
  rw [← hw1] at hb0 hb1 hg1
  have q0 : w1.cell? ⟨w.heap.size, 0, none⟩ = some (.string ⟨s.1.toArray⟩) := hb0.cell 0
  have q1 : w1.cell? ⟨w.heap.size, 1, none⟩ = some (.int .i64 (s.2 : Int)) := hb0.cell 1
  have hmm : (UInt64.ofNat m).toNat = m := by rw [UInt64.toNat_ofNat']; omega
  have hn := refGet_any s (UInt64.ofNat m) w1 hsz
  rw [hmm] at hn
  have hv := get_le s m
  generalize get s m = r at *
  obtain ⟨s2, v⟩ := r
  have hv' : v ≤ 9223372036854775807 := Nat.le_trans hv hm
  have hn64 : n64 (UInt64.ofNat v) = (v : Int) := by unfold n64; rw [UInt64.toNat_ofNat']; omega
  replace hn := Lib.hid hn
  replace hb1 := Lib.hid hb1
  replace hg1 := Lib.hid hg1
  replace hw1 := Lib.hid hw1
  clear hb0 hmm hv
  rcases hcase with rfl | ⟨hneg, rfl⟩
  · have hm1 : ¬ (m : Int) < 0 := by omega
    go_enter Try.func39, Try.ntmps39
    go_wp2_with fail
    rw [← hw1.out]
    refine hn.out.mono ?_
    rintro e w2 ⟨rfl, hgr⟩
    have hc := (hb1.out.below hgr hb1.out.lt).alloc (.cells #[.string ⟨s2.1.toArray⟩, .int .i64 (s2.2 : Int)] 77)
    obtain ⟨f0, d0, f1, d1, hb3⟩ := hc.pair (.string ⟨s2.1.toArray⟩) (.int .i64 (s2.2 : Int))
    have d1' := hc.cell 1
    have z0 := hb3.cell 0
    have z1 := hb3.cell 1
    have hge := Lib.hid (Below.setCell (Below.setCell (Gr.alloc (hg1.out.trans hgr) (.cells #[.string ⟨s2.1.toArray⟩, .int .i64 (s2.2 : Int)] 77)) (p := ⟨w.heap.size + 1, 0, none⟩) (Nat.le_succ _) (.string ⟨s2.1.toArray⟩)) (p := ⟨w.heap.size + 1, 1, none⟩) (Nat.le_succ _) (.int .i64 (s2.2 : Int)))
    clear hgr hc hb3 hn
    go_wp2
    refine bodyPost_ret (v := getIV (s2, v)) (by simp [results, Try.results39, go_sem, z0, z1]) rfl ⟨rfl, hge.out⟩
  · go_enter Try.func39, Try.ntmps39
    go_wp2_with fail
    rw [← hw1.out]
    refine hn.out.mono ?_
    rintro e w2 ⟨rfl, hgr⟩
    have hc := (hb1.out.below hgr hb1.out.lt).alloc (.cells #[.string ⟨s2.1.toArray⟩, .int .i64 (s2.2 : Int)] 77)
    obtain ⟨f0, d0, f1, d1, hb3⟩ := hc.pair (.string ⟨s2.1.toArray⟩) (.int .i64 (s2.2 : Int))
    have d1' := hc.cell 1
    have z0 := hb3.cell 0
    have z1 := hb3.cell 1
    have hge := Lib.hid (Below.setCell (Below.setCell (Gr.alloc (hg1.out.trans hgr) (.cells #[.string ⟨s2.1.toArray⟩, .int .i64 (s2.2 : Int)] 77)) (p := ⟨w.heap.size + 1, 0, none⟩) (Nat.le_succ _) (.string ⟨s2.1.toArray⟩)) (p := ⟨w.heap.size + 1, 1, none⟩) (Nat.le_succ _) (.int .i64 (s2.2 : Int)))
    clear hgr hc hb3 hn
    go_wp2
    refine bodyPost_ret (v := getIV (s2, v)) (by simp [results, Try.results39, go_sem, z0, z1]) rfl ⟨rfl, hge.out⟩
theorem refInt_any (s : RS) (most : Int) (w : World) (hm : most ≤ 9223372036854775807) (hsz : s.1.length ≤ 1099511627776) : Calls Try.prog 39 #[rsV s, .int .i64 most] w fun e w' => e = .returned (getIV (get s most.toNat)) ∧ Gr w w' := by
  by_cases h : 0 ≤ most
  · exact refInt_of s most most.toNat w (by omega) (.inl (by omega)) hsz
  · exact refInt_of s most most.toNat w (by omega) (.inr ⟨by omega, by omega⟩) hsz
theorem get_len (s : RS) (most : Nat) : (get s most).1.1.length ≤ s.1.length := by
  unfold get
  split
  · split
    · simp
    · simp
  · exact Nat.le_refl _
abbrev getTV (r : RS × List UInt8) : Value := .tuple #[rsV r.1, .string ⟨r.2.toArray⟩]
end Vint
end Go.Proofs.Ytcibngbgcnnjnaa
namespace Go.Proofs.Ytcibngbgcnnjnaa
open Go Go.RowKit W
namespace Vint
theorem refEnd_any (s : RS) (w : World) : Calls Try.prog 42 #[rsV s] w fun e w' => e = .returned (.int .i64 (ended s : Int)) ∧ Gr w w' := by
  have hb0 := Blk.new w 77 #[.string ⟨s.1.toArray⟩, .int .i64 (s.2 : Int)]
  have hg := Lib.hid ((Gr.refl w).alloc (.cells #[.string ⟨s.1.toArray⟩, .int .i64 (s.2 : Int)] 77))
  have q0 := hb0.cell 0
  have q1 := hb0.cell 1
  clear hb0
  by_cases h0 : s.2 = 0
  · have hci : ((s.2 : Int) == 0) = true := by simp [h0]
    by_cases hl : 0 < s.1.length
    · have hli : (0 : Int) < (s.1.length : Int) := by omega
      have hf := Lib.hid (show ended s = 5 from if_pos ⟨h0, hl⟩)
      clear h0 hl
      go_enter Try.func42, Try.ntmps42
      go_wp2
      go_ret
      rw [hf.out]
      exact ⟨rfl, hg.out⟩
    · have hli : ¬ (0 : Int) < (s.1.length : Int) := by omega
      have hf := Lib.hid (show ended s = s.2 by unfold ended; rw [if_neg (fun h => hl h.2)])
      clear h0 hl
      go_enter Try.func42, Try.ntmps42
      go_wp2
      go_ret
      rw [hf.out]
      exact ⟨rfl, hg.out⟩
  · have hci : ((s.2 : Int) == 0) = false := by simp; omega
    have hf := Lib.hid (show ended s = s.2 from if_neg (fun h => h0 h.1))
    clear h0
    go_enter Try.func42, Try.ntmps42
    go_wp2
    go_ret
    rw [hf.out]
    exact ⟨rfl, hg.out⟩
abbrev getSV (r : RS × (UInt64 × UInt64)) : Value := .tuple #[rsV r.1, .agg #[.int .u64 (n64 r.2.1), .int .u64 (n64 r.2.2)]]
theorem fold8_take (l : List UInt8) (k : Nat) (h : k < l.length) : fold8 (l.take (k + 1)) = fold8 (l.take k) * 256 + (l[k]).toUInt64 := by
  rw [List.take_succ_eq_append_getElem h, fold8_snoc]
theorem pair2 {w : World} {g1 g2 : Nat} {t1 t2 : TypeId} {a0 a1 c0 c1 : Value} (h1 : Blk w g1 t1 #[a0, a1]) (h2 : Blk w g2 t2 #[c0, c1]) (hne : g1 ≠ g2) (u0 u1 v0 v1 : Value) :
    (w.frozen? ⟨g1, 0, none⟩ = false ∧ w.cell? ⟨g1, 0, none⟩ = some a0 ∧ (w.setCell ⟨g1, 0, none⟩ u0).frozen? ⟨g1, 1, none⟩ = false ∧ (w.setCell ⟨g1, 0, none⟩ u0).cell? ⟨g1, 1, none⟩ = some a1) ∧
    (((w.setCell ⟨g1, 0, none⟩ u0).setCell ⟨g1, 1, none⟩ u1).frozen? ⟨g2, 0, none⟩ = false ∧ ((w.setCell ⟨g1, 0, none⟩ u0).setCell ⟨g1, 1, none⟩ u1).cell? ⟨g2, 0, none⟩ = some c0 ∧
      (((w.setCell ⟨g1, 0, none⟩ u0).setCell ⟨g1, 1, none⟩ u1).setCell ⟨g2, 0, none⟩ v0).frozen? ⟨g2, 1, none⟩ = false ∧ (((w.setCell ⟨g1, 0, none⟩ u0).setCell ⟨g1, 1, none⟩ u1).setCell ⟨g2, 0, none⟩ v0).cell? ⟨g2, 1, none⟩ = some c1) ∧
    (w.frozen? ⟨g1, 1, none⟩ = false ∧ w.cell? ⟨g1, 1, none⟩ = some a1 ∧ w.frozen? ⟨g2, 0, none⟩ = false ∧ w.cell? ⟨g2, 0, none⟩ = some c0 ∧ w.frozen? ⟨g2, 1, none⟩ = false ∧ w.cell? ⟨g2, 1, none⟩ = some c1) ∧
    Blk ((((w.setCell ⟨g1, 0, none⟩ u0).setCell ⟨g1, 1, none⟩ u1).setCell ⟨g2, 0, none⟩ v0).setCell ⟨g2, 1, none⟩ v1) g1 t1 #[u0, u1] ∧ Blk ((((w.setCell ⟨g1, 0, none⟩ u0).setCell ⟨g1, 1, none⟩ u1).setCell ⟨g2, 0, none⟩ v0).setCell ⟨g2, 1, none⟩ v1) g2 t2 #[v0, v1] := by
  obtain ⟨p0, p1, p2, p3, hb⟩ := h1.pair u0 u1
  have h2' := (h2.far (p := ⟨g1, 0, none⟩) (by show g2 ≠ g1; omega) u0).far (p := ⟨g1, 1, none⟩) (by show g2 ≠ g1; omega) u1
  obtain ⟨r0, r1, r2, r3, hc⟩ := h2'.pair v0 v1
  exact ⟨⟨p0, p1, p2, p3⟩, ⟨r0, r1, r2, r3⟩, ⟨h1.frozen 1, h1.cell 1, h2.frozen 0, h2.cell 0, h2.frozen 1, h2.cell 1⟩,
    (hb.far (p := ⟨g2, 0, none⟩) hne v0).far (p := ⟨g2, 1, none⟩) hne v1, hc⟩
/-- Four stores beneath 'Below'. -/
theorem below4 {B g1 g2 : Nat} {a w : World} (h : Below B a w) (h1 : B ≤ g1) (h2 : B ≤ g2) (u0 u1 v0 v1 : Value) : Below B a ((((w.setCell ⟨g1, 0, none⟩ u0).setCell ⟨g1, 1, none⟩ u1).setCell ⟨g2, 0, none⟩ v0).setCell ⟨g2, 1, none⟩ v1) :=
  Below.setCell (Below.setCell (Below.setCell (Below.setCell h (p := ⟨g1, 0, none⟩) h1 u0) (p := ⟨g1, 1, none⟩) h1 u1) (p := ⟨g2, 0, none⟩) h2 v0) (p := ⟨g2, 1, none⟩) h2 v1
set_option maxRecDepth 100000 in
set_option maxHeartbeats 4000000 in
theorem refSum2_any (s : RS) (w : World) (hsz : s.1.length ≤ 1099511627776) : Calls Try.prog 41 #[rsV s] w fun e w' => e = .returned (getSV (getSum s)) ∧ Gr w w' := by
  have hb0 := ((Blk.new w 77 #[.string ⟨s.1.toArray⟩, .int .i64 (s.2 : Int)]).alloc (.cells #[.string ⟨#[]⟩, .int .i64 0] 77)).alloc (.cells #[.int .u64 0, .int .u64 0] 31)
  have hb1 := (Blk.new (w.alloc (.cells #[.string ⟨s.1.toArray⟩, .int .i64 (s.2 : Int)] 77)) 77 #[.string ⟨#[]⟩, .int .i64 0]).alloc (.cells #[.int .u64 0, .int .u64 0] 31)
  have hb2 := Blk.new ((w.alloc (.cells #[.string ⟨s.1.toArray⟩, .int .i64 (s.2 : Int)] 77)).alloc (.cells #[.string ⟨#[]⟩, .int .i64 0] 77)) 31 #[.int .u64 0, .int .u64 0]
  rw [World.size_alloc] at hb1
  rw [World.size_alloc, World.size_alloc] at hb2
  have hg1 := (((Gr.refl w).alloc (.cells #[.string ⟨s.1.toArray⟩, .int .i64 (s.2 : Int)] 77)).alloc (.cells #[.string ⟨#[]⟩, .int .i64 0] 77)).alloc (.cells #[.int .u64 0, .int .u64 0] 31)
  obtain ⟨w1, hw1⟩ : ∃ w1, w1 = ((w.alloc (.cells #[.string ⟨s.1.toArray⟩, .int .i64 (s.2 : Int)] 77)).alloc (.cells #[.string ⟨#[]⟩, .int .i64 0] 77)).alloc (.cells #[.int .u64 0, .int .u64 0] 31) := ⟨_, rfl⟩
  rw [← hw1] at hb0 hb1 hb2 hg1
  have q0 : w1.cell? ⟨w.heap.size, 0, none⟩ = some (.string ⟨s.1.toArray⟩) := hb0.cell 0
  have q1 : w1.cell? ⟨w.heap.size, 1, none⟩ = some (.int .i64 (s.2 : Int)) := hb0.cell 1
  replace hb0 := Lib.hid hb0
  replace hb1 := Lib.hid hb1
  replace hb2 := Lib.hid hb2
  replace hg1 := Lib.hid hg1
  replace hw1 := Lib.hid hw1
  by_cases he : s.2 = 0
  · have hci : ((s.2 : Int) == 0) = true := by simp [he]
    by_cases hl : s.1.length < 16
    · have hli : (s.1.length : Int) < 16 := by omega
      have hv : Hid (getSum s = (([], 4), (0, 0))) := by unfold getSum; rw [if_pos he, if_pos hl]; exact Lib.hid rfl
      have hfl := Lib.hid (fail_any s 4 w1)
      clear he hl
      go_enter Try.func41, Try.ntmps41
      go_wp2_with fail
      rw [← hw1.out]
      refine hfl.out.mono ?_
      rintro e w2 ⟨rfl, hgr⟩
      obtain ⟨⟨f0, d0, f1, d1⟩, ⟨f2, d2, f3, d3⟩, ⟨f4, d4, f5, d5, f6, d6⟩, hb3, hb4⟩ := pair2 (hb1.out.below hgr hb1.out.lt) (hb2.out.below hgr hb2.out.lt) (by omega) (.string ⟨#[]⟩) (.int .i64 4) (.int .u64 0) (.int .u64 0)
      have z0 := hb3.cell 0
      have z1 := hb3.cell 1
      have z2 := hb4.cell 0
      have z3 := hb4.cell 1
      have hge := Lib.hid (below4 (hg1.out.trans hgr) (Nat.le_succ _) (show w.heap.size ≤ w.heap.size + 1 + 1 by omega) (.string ⟨#[]⟩) (.int .i64 4) (.int .u64 0) (.int .u64 0))
      clear hgr hb3 hb4 hfl
      go_wp2
      refine bodyPost_ret (v := getSV (([], 4), (0, 0))) (by simp [results, Try.results41, go_sem, z0, z1, z2, z3]) rfl ⟨by rw [hv.out], hge.out⟩
    · have hli : ¬ (s.1.length : Int) < 16 := by omega
      obtain ⟨l, er⟩ := s
      have hl16 : 16 ≤ l.length := by show 16 ≤ (l, er).1.length; omega
      obtain rfl : er = 0 := he
      have hli : ¬ (l.length : Int) < 16 := by omega
      have hv : Hid (getSum (l, 0) = (((l.drop 16).take (l.length - 16), 0), (word8 l, word8 (l.drop 8)))) := by
        have hde : (l.drop 16).take (l.length - 16) = l.drop 16 := List.take_of_length_le (by rw [List.length_drop]; exact Nat.le_refl _)
        unfold getSum
        rw [if_pos rfl, if_neg hl, hde]
        exact Lib.hid rfl
      have hget : ∀ k (h : k < l.length), (⟨l.toArray⟩ : ByteArray)[k]'h = l[k] := fun k h => rfl
      clear hl
      go_enter Try.func41, Try.ntmps41
      go_wp2_with fail
      have hb4' := Blk.new w1 31 #[.int .u64 0, .int .u64 0]
      have hg4 := Lib.hid ((Gr.refl w1).alloc (.cells #[.int .u64 0, .int .u64 0] 31))
      have hw1' : Hid ((((w.alloc (.cells #[.string ⟨l.toArray⟩, .int .i64 0] 77)).alloc (.cells #[.string ⟨#[]⟩, .int .i64 0] 77)).alloc (.cells #[.int .u64 0, .int .u64 0] 31)) = w1) := Lib.hid hw1.out.symm
      rw [hw1'.out]
      have hsz1 : w1.heap.size = w.heap.size + 1 + 1 + 1 := by rw [hw1.out]; simp
      rw [hsz1] at hb4'
      have hb4 := Lib.hid hb4'
      replace hsz1 := Lib.hid hsz1
      clear hb4' hw1'
      go_loopw [5] (fun i wr => ∃ k : Nat, k ≤ 8 ∧ i = .int .i64 (k : Int) ∧ Gr w1 wr ∧ Blk wr (w.heap.size + 1 + 1 + 1) 31 #[.int .u64 (n64 (fold8 (l.take k))), .int .u64 (n64 (fold8 ((l.drop 8).take k)))]) (fun i _ => 8 - (intOf i).toNat)
      case atStart => exact ⟨0, by omega, rfl, hg4.out, hb4.out⟩
      case round =>
        obtain ⟨k, hk, rfl, hg, hb⟩ := hrel
        clear hb4 hg4
        have hB := hb0.out.below hg hb0.out.lt
        by_cases h : k < 8
        · have hki : (k : Int) < 8 := by omega
          have hkl : (k : Int) < (l.length : Int) := by omega
          have hkl8 : (8 : Int) + (k : Int) < (l.length : Int) := by omega
          have e1 := Lib.hid (fold8_take l k (by omega))
          have e2 := Lib.hid (fold8_take (l.drop 8) k (by rw [List.length_drop]; omega))
          have e3 : (l.drop 8)[k]'(by rw [List.length_drop]; omega) = l[8 + k]'(by omega) := List.getElem_drop
          rw [e3] at e2
          clear e3
          generalize fold8 (l.take k) = x at *
          generalize fold8 ((l.drop 8).take k) = y at *
          have c0 := hb.cell 0
          have c1 := hb.cell 1
          have f0 := hb.frozen 0
          have f1 := hb.frozen 1
          have q0' : wr.cell? ⟨w.heap.size, 0, none⟩ = some (.string ⟨l.toArray⟩) := hB.cell 0
          have hb' := Lib.hid hb
          have hB' := Lib.hid hB
          have hg' := Lib.hid hg
          clear hb hB hg
          go_wp2
          go_region
          have hbA : Blk (wr.setCell ⟨w.heap.size + 1 + 1 + 1, 0, none⟩ (.int .u64 (n64 (x * 256 + (l[k]'(by omega)).toUInt64)))) (w.heap.size + 1 + 1 + 1) 31 #[.int .u64 (n64 (x * 256 + (l[k]'(by omega)).toUInt64)), .int .u64 (n64 y)] := hb'.out.set_ 0 _
          have hBA := hB'.out.far (p := ⟨w.heap.size + 1 + 1 + 1, 0, none⟩) (by show w.heap.size ≠ w.heap.size + 1 + 1 + 1; omega) (.int .u64 (n64 (x * 256 + (l[k]'(by omega)).toUInt64)))
          have c0A := hbA.cell 0
          have c1A := hbA.cell 1
          have f0A := hbA.frozen 0
          have f1A := hbA.frozen 1
          have q0A : (wr.setCell ⟨w.heap.size + 1 + 1 + 1, 0, none⟩ (.int .u64 (n64 (x * 256 + (l[k]'(by omega)).toUInt64)))).cell? ⟨w.heap.size, 0, none⟩ = some (.string ⟨l.toArray⟩) := hBA.cell 0
          have hbC : Hid (Blk ((wr.setCell ⟨w.heap.size + 1 + 1 + 1, 0, none⟩ (.int .u64 (n64 (x * 256 + (l[k]'(by omega)).toUInt64)))).setCell ⟨w.heap.size + 1 + 1 + 1, 1, none⟩ (.int .u64 (n64 (y * 256 + (l[8 + k]'(by omega)).toUInt64)))) (w.heap.size + 1 + 1 + 1) 31 #[.int .u64 (n64 (x * 256 + (l[k]'(by omega)).toUInt64)), .int .u64 (n64 (y * 256 + (l[8 + k]'(by omega)).toUInt64))]) := Lib.hid (hbA.set_ 1 _)
          have hgC := Lib.hid (Below.setCell (Below.setCell hg'.out (p := ⟨w.heap.size + 1 + 1 + 1, 0, none⟩) (by show w1.heap.size ≤ w.heap.size + 1 + 1 + 1; rw [hsz1.out]; exact Nat.le_refl _) (.int .u64 (n64 (x * 256 + (l[k]'(by omega)).toUInt64)))) (p := ⟨w.heap.size + 1 + 1 + 1, 1, none⟩) (by show w1.heap.size ≤ w.heap.size + 1 + 1 + 1; rw [hsz1.out]; exact Nat.le_refl _) (.int .u64 (n64 (y * 256 + (l[8 + k]'(by omega)).toUInt64))))
          clear hbA hBA c0 c1 f0 f1 q0'
          go_wp2
          have hwr : IntKind.i64.wrap (8 + (k : Int)) = 8 + (k : Int) := by rw [IntKind.wrap_i64]; omega
          have hnn : (0 : Int) ≤ 8 + (k : Int) := by omega
          have htn : (8 + (k : Int)).toNat = 8 + k := by omega
          go_region
          clear hwr
          go_wp2
          go_roundw
          case rel => exact ⟨k + 1, by omega, by go_num, Below.drew (Below.drew hgC.out), by rw [e1.out, e2.out]; exact hbC.out⟩
          case measure => simp [intOf]; omega
        · obtain rfl : k = 8 := by omega
          have hki : ¬ ((8 : Nat) : Int) < 8 := by omega
          have hb1r := hb1.out.below hg hb1.out.lt
          have hb2r := hb2.out.below hg hb2.out.lt
          have e1 : fold8 (l.take 8) = word8 l := rfl
          have e2 : fold8 ((l.drop 8).take 8) = word8 (l.drop 8) := rfl
          rw [e1, e2] at hb
          generalize word8 l = x at *
          generalize word8 (l.drop 8) = y at *
          have c0 := hb.cell 0
          have c1 := hb.cell 1
          have q0' : wr.cell? ⟨w.heap.size, 0, none⟩ = some (.string ⟨l.toArray⟩) := hB.cell 0
          have hg' := Lib.hid (hg1.out.trans hg)
          clear e1 e2
          obtain ⟨⟨f0, d0, f1, d1⟩, ⟨f2, d2, f3, d3⟩, ⟨f4, d4, f5, d5, f6, d6⟩, hb3, hb4⟩ := pair2 hb1r hb2r (by omega) (.string ⟨((l.drop 16).take (l.length - 16)).toArray⟩) (.int .i64 0) (.int .u64 (n64 x)) (.int .u64 (n64 y))
          have z0 := hb3.cell 0
          have z1 := hb3.cell 1
          have z2 := hb4.cell 0
          have z3 := hb4.cell 1
          have hbx := (hb.far (p := ⟨w.heap.size + 1, 0, none⟩) (by show w.heap.size + 1 + 1 + 1 ≠ w.heap.size + 1; omega) (.string ⟨((l.drop 16).take (l.length - 16)).toArray⟩)).far (p := ⟨w.heap.size + 1, 1, none⟩) (by show w.heap.size + 1 + 1 + 1 ≠ w.heap.size + 1; omega) (.int .i64 0)
          have x0 := hbx.cell 0
          have x1 := hbx.cell 1
          have hge := Lib.hid (below4 hg'.out (Nat.le_succ _) (show w.heap.size ≤ w.heap.size + 1 + 1 by omega) (.string ⟨((l.drop 16).take (l.length - 16)).toArray⟩) (.int .i64 0) (.int .u64 (n64 x)) (.int .u64 (n64 y)))
          have hl16i : (16 : Int) ≤ (l.length : Int) := by omega
          clear hb3 hb4 hbx hb hB hb1r hb2r hg
          go_wp2
          go_region
          all_goals
            go_wp2
            refine bodyPost_ret (v := getSV ((((l.drop 16).take (l.length - 16)), 0), (x, y))) (by simp [results, Try.results41, go_sem, z0, z1, z2, z3]) rfl ⟨by rw [hv.out], Below.drew hge.out⟩
  · have hci : ((s.2 : Int) == 0) = false := by simp; omega
    have hv : Hid (getSum s = (s, (0, 0))) := Lib.hid (if_neg he)
    have hbE1 := (Blk.new (w.alloc (.cells #[.string ⟨s.1.toArray⟩, .int .i64 (s.2 : Int)] 77)) 77 #[.string ⟨s.1.toArray⟩, .int .i64 (s.2 : Int)]).alloc (.cells #[.int .u64 0, .int .u64 0] 31)
    have hbE2 := Blk.new ((w.alloc (.cells #[.string ⟨s.1.toArray⟩, .int .i64 (s.2 : Int)] 77)).alloc (.cells #[.string ⟨s.1.toArray⟩, .int .i64 (s.2 : Int)] 77)) 31 #[.int .u64 0, .int .u64 0]
    rw [World.size_alloc] at hbE1
    rw [World.size_alloc, World.size_alloc] at hbE2
    have hge := Lib.hid ((((Gr.refl w).alloc (.cells #[.string ⟨s.1.toArray⟩, .int .i64 (s.2 : Int)] 77)).alloc (.cells #[.string ⟨s.1.toArray⟩, .int .i64 (s.2 : Int)] 77)).alloc (.cells #[.int .u64 0, .int .u64 0] 31))
    have z0 := hbE1.cell 0
    have z1 := hbE1.cell 1
    have z2 := hbE2.cell 0
    have z3 := hbE2.cell 1
    clear he hbE1 hbE2
    go_enter Try.func41, Try.ntmps41
    go_wp2
    refine bodyPost_ret (v := getSV (s, (0, 0))) (by simp [results, Try.results41, go_sem, z0, z1, z2, z3]) rfl ⟨by rw [hv.out], hge.out⟩
end Vint
end Go.Proofs.Ytcibngbgcnnjnaa
namespace Go.Proofs.Ytcibngbgcnnjnaa
open Go Go.RowKit W Bl Vint
namespace Sg
theorem rdInfo {a b : Value} : (Try.prog.info? 77).map (·.size) = some (#[a, b] : Array Value).size := by kernel_rfl
theorem sumInfo {a b : Value} : (Try.prog.info? 31).map (·.size) = some (#[a, b] : Array Value).size := by kernel_rfl
abbrev sigZ2 : Array Value := #[.int .i64 0, .slice none 0 0, .int .i64 0, .int .u32 0, .int .u64 0, .int .u64 0]
abbrev rdC (st : RS) : Array Value := #[.string ⟨st.1.toArray⟩, .int .i64 (st.2 : Int)]
theorem below_kb2 {w X Y : World} {b : Nat} (h : Below w.heap.size w X) (k : Kb b X Y) (hb : w.heap.size ≤ b) : Below w.heap.size w Y :=
  ⟨k.os.trans h.os, k.tape.trans h.tape, k.output.trans h.output, Nat.le_trans h.size k.size, fun i hi => (World.grownBy.block k i (Nat.lt_of_lt_of_le hi h.size) (fun e => by cases e; omega)).trans (h.block i hi)⟩
/-- While a signature is read, by the document. -/
structure RG (w : World) (st : RS) (cells : Array Value) (A0 : Option Addr) (c0 : Nat) (out : List Sign) (W : World) : Prop where
  br : Blk W w.heap.size 45 sigZ2
  rd : Blk W (w.heap.size + 1) 77 (rdC st)
  bs : Blk W (w.heap.size + 2) 45 cells
  os : OS 40 W (w.heap.size + 3) (.slice A0 out.length c0) out
  bel : Below w.heap.size w W
section
variable {w W W' : World} {st st' : RS} {cells : Array Value} {A0 : Option Addr} {c0 : Nat} {out : List Sign}
theorem RG.gr (h : RG w st cells A0 c0 out W) (k : Gr W W') : RG w st cells A0 c0 out W' := ⟨blk_more h.br k, blk_more h.rd k, blk_more h.bs k, OS.below h.os k, Below.trans h.bel (Below.mono k h.bel.size)⟩
theorem RG.put (h : RG w st cells A0 c0 out W) (n : Blk W' (w.heap.size + 1) 77 (rdC st')) (k : Kb (w.heap.size + 1) W W') : RG w st' cells A0 c0 out W' :=
  ⟨k.blk h.br (by omega), n, k.blk h.bs (by omega), os_kb h.os k (by omega), below_kb2 h.bel k (by omega)⟩
theorem RG.set (h : RG w st cells A0 c0 out W) (i : Nat) (u : Value) : RG w st (cells.setIfInBounds i u) A0 c0 out (W.setCell ⟨w.heap.size + 2, i, none⟩ u) :=
  ⟨h.br.far (p := ⟨w.heap.size + 2, i, none⟩) (by show w.heap.size ≠ w.heap.size + 2; omega) u, h.rd.far (p := ⟨w.heap.size + 2, i, none⟩) (by show w.heap.size + 1 ≠ w.heap.size + 2; omega) u, h.bs.set_ i u, os_kb h.os ((Kb.refl _ W).set i u) (by omega), below_kb2 h.bel ((Kb.refl _ W).set i u) (by omega)⟩
/-- Another block is written, far behind, that the slice doesn't own. -/
theorem RG.far {n B : Nat} (h : RG w st cells A0 c0 out W) (k : Kb n W W') (hB : B ≤ n) (hw : w.heap.size + 3 ≤ B) (hs : ∀ g, (Value.slice A0 out.length c0).ownBlock = some g → g < B) : RG w st cells A0 c0 out W' :=
  ⟨k.blk h.br (by omega), k.blk h.rd (by omega), k.blk h.bs (by omega), World.ownsRow.kept h.os k (by
    cases hv : (Value.slice A0 out.length c0).ownBlock with
    | none => exact .inl rfl
    | some g => exact .inr (fun e => by have := hs g hv; cases e; omega)), below_kb2 h.bel k (by omega)⟩
theorem RG.own (h : RG w st cells A0 c0 out W) : ∀ g, (Value.slice A0 out.length c0).ownBlock = some g → g < W.heap.size := fun g e => (World.ownsRow.lt h.os g e).2
theorem RG.lt (h : RG w st cells A0 c0 out W) : w.heap.size + 2 < W.heap.size := h.bs.lt
theorem RG.app {z : Int} {A9 : Option Addr} {c9 : Nat} {x : Sign} {n : Nat} {u : Value} (S : RG w st (sigC z u 0 zero) A0 c0 out W)
    (hb : Below (w.heap.size + 3) W W') (ho : OR 40 3 W' (w.heap.size + 3) (.slice A9 n c9) n (scs (out ++ [x]))) (hn : n = (out ++ [x]).length) :
    RG w st (sigC z (.slice A9 n c9) 0 zero) A9 c9 (out ++ [x]) (W'.setCell ⟨w.heap.size + 2, 1, none⟩ (.slice A9 n c9)) := by
  subst hn
  refine ⟨(S.br.below hb (by omega)).far (p := ⟨w.heap.size + 2, 1, none⟩) (by show w.heap.size ≠ w.heap.size + 2; omega) _, (S.rd.below hb (by omega)).far (p := ⟨w.heap.size + 2, 1, none⟩) (by show w.heap.size + 1 ≠ w.heap.size + 2; omega) _, (S.bs.below hb (by omega)).set_ 1 _, OR.setFar ho (by show w.heap.size + 2 < w.heap.size + 3; omega) _, ?_⟩
  exact below_kb2 (Below.trans S.bel (Below.mono hb (by omega))) ((Kb.refl _ W').set 1 _) (by omega)
end
theorem run_refGet (st : RS) (w : World) (hsz : st.1.length ≤ 1099511627776) : Calls Try.prog 40 #[rsV st, .int .u64 4294967295] w fun e w' => e = .returned (getRV (get st 4294967295)) ∧ Gr w w' :=
  refGet_any st 4294967295 w hsz
def OutGR (w : World) (R : Sig × Nat) : Ending → World → Prop := fun e w' => ∃ A c, e = .returned (.tuple #[sigV R.1 A c, .int .i64 (R.2 : Int)]) ∧ OS 40 w' w.heap.size (.slice A R.1.bs.length c) R.1.bs ∧ Gr w w'
theorem get_short' (s : RS) (m : Nat) : (Vint.get s m).1.1.length ≤ s.1.length := by
  unfold Vint.get
  split
  · split
    · simp
    · simp
  · exact Nat.le_refl _
theorem sum_short' (s : RS) : (getSum s).1.1.length ≤ s.1.length := by
  unfold getSum
  split
  · split
    · simp
    · simp
  · exact Nat.le_refl _
set_option maxRecDepth 100000 in
set_option maxHeartbeats 8000000 in
theorem refGet_sig (l : List UInt8) (w : World) (hs : l.length ≤ 1000000) :
    Calls Try.prog 21 #[str l] w (OutGR w (gets l)) := by
  obtain ⟨R, hR⟩ : ∃ R, gets l = R := ⟨_, rfl⟩
  rw [hR]
  unfold gets at hR
  have hi := Lib.hid (fun w => show Calls Try.prog 39 #[rsV (l, 0), .int .i64 64] w fun e w' => e = .returned (getIV (get (l, 0) 64)) ∧ Gr w w' from refInt_any (l, 0) 64 w (by omega) (by simp only []; omega))
  have hl1 := get_short' (l, 0) 64
  have hz64 := get_le (l, 0) 64
  generalize get (l, 0) 64 = p at *
  obtain ⟨st1, z⟩ := p
  simp only at hR hi hl1 hz64
  have hn := Lib.hid (fun w => show Calls Try.prog 39 #[rsV st1, .int .i64 4096] w fun e w' => e = .returned (getIV (get st1 4096)) ∧ Gr w w' from refInt_any st1 4096 w (by omega) (by omega))
  have hl2 := get_short' st1 4096
  have hn4 := get_le st1 4096
  generalize get st1 4096 = p at *
  obtain ⟨st2, n⟩ := p
  simp only at hR hn hl2 hn4
  obtain ⟨Q, hQ⟩ : ∃ Q, rowsF n st2 [] = Q := ⟨_, rfl⟩
  rw [hQ] at hR
  replace hR := Lib.hid hR
  replace hQ := Lib.hid hQ
  have hst1 : st1.1.length ≤ 1000000 := by omega
  have hst2 : st2.1.length ≤ 1000000 := by omega
  clear hl1 hl2
  have b1 := ((Blk.new w 45 sigZ2).alloc (.cells (rdC (l, 0)) 77)).alloc (.cells sigZ2 45)
  have b2 := (Blk.new (w.alloc (.cells sigZ2 45)) 77 (rdC (l, 0))).alloc (.cells sigZ2 45)
  have b3 := Blk.new ((w.alloc (.cells sigZ2 45)).alloc (.cells (rdC (l, 0)) 77)) 45 sigZ2
  rw [World.size_alloc] at b2 b3
  rw [World.size_alloc] at b3
  have S0 := Lib.hid (⟨b1, b2, b3, OS.nil_ _ _ _, (((Gr.refl w).alloc (.cells sigZ2 45)).alloc (.cells (rdC (l, 0)) 77)).alloc (.cells sigZ2 45)⟩ : RG w (l, 0) sigZ2 none 0 [] (((w.alloc (.cells sigZ2 45)).alloc (.cells (rdC (l, 0)) 77)).alloc (.cells sigZ2 45)))
  clear b1 b2 b3
  go_enter Try.func21, Try.ntmps21
  go_wp2_with fail
  go_at_call 39
  refine (hi.out _).mono ?_
  rintro e w1 ⟨rfl, g1⟩
  have S1 := Lib.hid ((S0.out.gr g1).gr ((Gr.refl w1).alloc (.cells (rdC st1) 77)))
  clear S0 g1 hi
  go_wp2_with (first
          | ((with_reducible refine wpList_isStore 77 (.tmp 4) (.tmp 26) rfl ?_); refine wpList_store_blk rfl 77 (.tmp 4) (.tmp 26) rfl (w.heap.size + 1) (rdC st1) rfl rfl 77 _ S1.out.rd rdInfo rfl (by simp [Value.oneCell']) ?_; intro w2 nn kk zz; have S2 := Lib.hid (S1.out.put nn kk); have f0 := S2.out.bs.frozen 0; have y0 := S2.out.bs.cell 0; have S3 := Lib.hid (S2.out.set 0 (.int .i64 (z : Int))); have d0 := S3.out.rd.cell 0; have d1 := S3.out.rd.cell 1; clear nn kk zz))
  go_at_call 39
  refine (hn.out _).mono ?_
  rintro e w4 ⟨rfl, g4⟩
  have S4 := Lib.hid (S3.out.gr g4)
  clear S2 S3 f0 y0 d0 d1 g4 hn
  go_wp2_with (first
          | ((with_reducible refine wpList_isStore 77 (.tmp 4) (.tmp 32) rfl ?_); refine wpList_store_blk rfl 77 (.tmp 4) (.tmp 32) rfl (w.heap.size + 1) (rdC st2) rfl rfl 77 _ S4.out.rd rdInfo rfl (by simp [Value.oneCell']) ?_; intro w5 nn kk zz; have S5 := Lib.hid (S4.out.put nn kk); clear nn kk zz))
  clear S4
  go_loopw [7, 10, 11, 12, 13] (fun _ i _ _ _ wr => ∃ k : Nat, k ≤ n ∧ i = .int .i64 (k : Int) ∧ ∃ st out A0 c0, out.length = k ∧ st.1.length ≤ 1000000 ∧ rowsF (n - k) st out = Q ∧ RG w st (sigC (z : Int) (.slice A0 out.length c0) 0 zero) A0 c0 out wr) (fun _ i _ _ _ _ => n - (intOf i).toNat)
  case atStart => exact ⟨0, by omega, rfl, st2, [], none, 0, rfl, hst2, hQ.out, S5.out⟩
  case round =>
    clear S5 hQ
    obtain ⟨k, hk, rfl, st, out, A0, c0, hok, hsl, hQ, S⟩ := hrel
    have d0 := S.rd.cell 0
    have d1 := S.rd.cell 1
    have hS := Lib.hid S
    have hlt := S.lt
    by_cases h : k < n
    · obtain ⟨m, hm⟩ : ∃ m, n - k = m + 1 := ⟨n - k - 1, by omega⟩
      rw [hm, rowsF] at hQ
      by_cases he : st.2 = 0
      · rw [if_neg (by simpa using he)] at hQ
        have hei : (((st.2 : Nat) : Int) == 0) = true := by rw [he]; rfl
        have hbe := Lib.hid he
        clear he
        unfold one at hQ
        have hg1 := Lib.hid (fun w => run_refGet st w (by omega))
        have hs1 := get_short' st 4294967295
        generalize get st 4294967295 = p at *
        obtain ⟨st3, v⟩ := p
        simp only at hQ hg1 hs1
        have hg2 := Lib.hid (fun w => refSum2_any st3 w (by omega))
        have hs2 := sum_short' st3
        generalize getSum st3 = p at *
        obtain ⟨st4, x, y⟩ := p
        simp only at hQ hg2 hs2
        replace hQ := Lib.hid hQ
        replace hok := Lib.hid hok
        have hob : out.length ≤ 4096 := by have := hok.out; omega
        have SA := Lib.hid (S.gr ((Gr.refl wr).alloc (.cells #[.int .u32 0, .int .u64 0, .int .u64 0] 40)))
        have da0 := SA.out.rd.cell 0
        have da1 := SA.out.rd.cell 1
        have TA := Lib.hid (Blk.new wr 40 #[.int .u32 0, .int .u64 0, .int .u64 0])
        have hown := S.own
        clear S
        go_wp2_with fail
        go_at_call 40
        refine (hg1.out _).mono ?_
        rintro e w6 ⟨rfl, g6⟩
        have S6 := Lib.hid (SA.out.gr g6)
        have T6 := Lib.hid (blk_more TA.out g6)
        have hz6 := Below.size g6
        rw [World.size_alloc] at hz6
        clear SA TA da0 da1 d0 d1 g6 hg1 hS
        go_wp2_with (first
          | ((with_reducible refine wpList_isStore 77 (.tmp 4) (.tmp 48) rfl ?_); refine wpList_store_blk rfl 77 (.tmp 4) (.tmp 48) rfl (w.heap.size + 1) (rdC st3) rfl rfl 77 _ S6.out.rd rdInfo rfl (by simp [Value.oneCell']) ?_; intro w7 nn kk zz; have S7 := Lib.hid (S6.out.put nn kk); have T7 := kk.blk T6.out (by omega); have t0 := T7.cell 0; have tf0 := T7.frozen 0; have T8 := Lib.hid (T7.set_ 0 (.int .u32 (n32 (UInt32.ofNat v)))); have hzk := kk.size; have S8 := Lib.hid (S7.out.far ((Kb.refl wr.heap.size w7).set 0 (.int .u32 (n32 (UInt32.ofNat v)))) (Nat.le_refl _) (by omega) hown); have d0 := S8.out.rd.cell 0; have d1 := S8.out.rd.cell 1; clear nn kk zz))
        go_at_call 41
        refine (hg2.out _).mono ?_
        rintro e w9 ⟨rfl, g9⟩
        have S9 := Lib.hid (S8.out.gr g9)
        have T9 := Lib.hid (blk_more T8.out g9)
        clear S6 T6 S7 T7 t0 tf0 T8 S8 d0 d1 g9 hg2
        have gA := (Gr.refl w9).alloc (.cells (rdC st4) 77)
        have gB := gA.alloc (.cells #[.int .u64 (n64 x), .int .u64 (n64 y)] 31)
        have S10 := Lib.hid (S9.out.gr gB)
        have T10 := Lib.hid (blk_more T9.out gB)
        have U10 := Blk.new (w9.alloc (.cells (rdC st4) 77)) 31 #[.int .u64 (n64 x), .int .u64 (n64 y)]
        rw [World.size_alloc] at U10
        replace U10 := Lib.hid U10
        have hz9 := T9.out.lt
        clear S9 T9 gA gB
        go_wp2_with (first
          | ((with_reducible refine wpList_isStore 77 (.tmp 4) (.tmp 58) rfl ?_); refine wpList_store_blk rfl 77 (.tmp 4) (.tmp 58) rfl (w.heap.size + 1) (rdC st4) rfl rfl 77 _ S10.out.rd rdInfo rfl (by simp [Value.oneCell']) ?_; intro w11 nn kk zz; have S11 := Lib.hid (S10.out.put nn kk); have U11 := kk.blk U10.out (by omega); have u0 := U11.cell 0; have u1 := U11.cell 1; have T11 := kk.blk T10.out (by omega); have t1 := T11.cell 1; have t2 := T11.cell 2; have tf1 := T11.frozen 1; have tf2 := T11.frozen 2; have T12 := Lib.hid ((T11.set_ 1 (.int .u64 (n64 x))).set_ 2 (.int .u64 (n64 y))); have v0 := T12.out.cell 0; have v1 := T12.out.cell 1; have v2 := T12.out.cell 2; have hzk := kk.size; have S12 := Lib.hid (S11.out.far (((Kb.refl wr.heap.size w11).set 1 (.int .u64 (n64 x))).set 2 (.int .u64 (n64 y))) (Nat.le_refl _) (by omega) hown); have s1 := S12.out.bs.cell 1; have S13 := Lib.hid (S12.out.gr ((Gr.refl _).alloc (.cells #[.int .u32 (n32 (UInt32.ofNat v)), .int .u64 (n64 x), .int .u64 (n64 y)] 40))); have N13 := SR.new1 ((w11.setCell ⟨wr.heap.size, 1, none⟩ (.int .u64 (n64 x))).setCell ⟨wr.heap.size, 2, none⟩ (.int .u64 (n64 y))) 40 (UInt32.ofNat v, x, y); rw [World.size_setCell, World.size_setCell] at N13; have N13 := Lib.hid N13; clear U11 T11; clear nn kk zz)
          | ((with_reducible refine wpList_isApp (.tmp 62) (.tmp 64) 43 rfl ?_); refine wpList_append_rowsN (v := .slice A0 out.length c0) rfl (.tmp 62) (.tmp 64) 43 rfl Try.underlying43 refSignRow rfl (by exact S13.out.os) (w11.heap.size + 1) _ 1 1 (scs [(UInt32.ofNat v, x, y)]) rfl (by exact N13.out) (scs_one_cell _) (by unfold maxLen; omega) (by omega) (by have := S13.out.bs.lt; omega) (scs (out ++ [(UInt32.ofNat v, x, y)])) (scs_append _ _) (out.length + 1) rfl ?_; intro A9 c9 w14 o9 b9; have S14 := Lib.hid (S13.out.app (x := (UInt32.ofNat v, x, y)) b9 o9 (by simp)); have m9 := S13.out.bs.below b9 (by omega); have f9 := m9.frozen 1; have y9 := m9.cell 1; clear S13 N13 o9 b9 m9))
        go_roundw
        case rel => exact ⟨k + 1, by omega, by go_num, st4, out ++ [(UInt32.ofNat v, x, y)], A9, c9, by rw [List.length_append, hok.out]; rfl, by omega, by rw [show n - (k + 1) = m by omega]; exact hQ.out, by rw [List.length_append]; exact S14.out⟩
        case measure => simp [intOf]; omega
      · rw [if_pos he] at hQ
        subst hQ
        have hei : (((st.2 : Nat) : Int) == 0) = false := by simp [he]
        clear he hok hm hk
        have hRf := hR.out
        unfold fin2 at hRf
        simp only at hRf
        have hg3 := Lib.hid (fun w => show Calls Try.prog 39 #[rsV st, .int .i64 63] w fun e w' => e = .returned (getIV (get st 63)) ∧ Gr w w' from refInt_any st 63 w (by omega) (by omega))
        have hs3 := get_short' st 63
        have hl3 := get_le st 63
        generalize get st 63 = p at *
        obtain ⟨st3, t⟩ := p
        simp only at hRf hg3 hs3 hl3
        replace hRf := Lib.hid hRf
        clear hR S
        go_wp2_with fail
        go_at_call 39
        refine (hg3.out _).mono ?_
        rintro e w6 ⟨rfl, g6⟩
        have S6 := Lib.hid ((hS.out.gr g6).gr ((Gr.refl w6).alloc (.cells (rdC st3) 77)))
        clear hS g6 hg3 d0 d1
        by_cases ht : 0 < t
        · have ht' : (0 : Int) < (t : Int) := by omega
          have hRg := hRf.out
          unfold lastR at hRg
          rw [if_pos ht] at hRg
          unfold one at hRg
          have hg4 := Lib.hid (fun w => run_refGet st3 w (by omega))
          have hs4 := get_short' st3 4294967295
          generalize get st3 4294967295 = p at *
          obtain ⟨st4, v⟩ := p
          simp only at hRg hg4 hs4
          have hg5 := Lib.hid (fun w => refSum2_any st4 w (by omega))
          generalize getSum st4 = p at *
          obtain ⟨st5, x, y⟩ := p
          simp only at hRg hg5
          replace hRg := Lib.hid hRg
          clear hRf
          go_wp2_with (first
                    | ((with_reducible refine wpList_isStore 77 (.tmp 4) (.tmp 72) rfl ?_); refine wpList_store_blk rfl 77 (.tmp 4) (.tmp 72) rfl (w.heap.size + 1) (rdC st3) rfl rfl 77 _ S6.out.rd rdInfo rfl (by simp [Value.oneCell']) ?_; intro w7 nn kk zz; have S7 := Lib.hid (S6.out.put nn kk); have f2 := S7.out.bs.frozen 2; have y2 := S7.out.bs.cell 2; have S8 := Lib.hid (S7.out.set 2 (.int .i64 (t : Int))); have u2 := S8.out.bs.cell 2; have d0 := S8.out.rd.cell 0; have d1 := S8.out.rd.cell 1; clear nn kk zz))
          go_at_call 40
          refine (hg4.out _).mono ?_
          rintro e w9 ⟨rfl, g9⟩
          have S9 := Lib.hid (S8.out.gr g9)
          clear S6 S7 S8 f2 y2 u2 d0 d1 g9 hg4
          go_wp2_with (first
                    | ((with_reducible refine wpList_isStore 77 (.tmp 4) (.tmp 81) rfl ?_); refine wpList_store_blk rfl 77 (.tmp 4) (.tmp 81) rfl (w.heap.size + 1) (rdC st4) rfl rfl 77 _ S9.out.rd rdInfo rfl (by simp [Value.oneCell']) ?_; intro w10 nn kk zz; have S10 := Lib.hid (S9.out.put nn kk); have f3 := S10.out.bs.frozen 3; have y3 := S10.out.bs.cell 3; have S11 := Lib.hid (S10.out.set 3 (.int .u32 (n32 (UInt32.ofNat v)))); have d0 := S11.out.rd.cell 0; have d1 := S11.out.rd.cell 1; clear nn kk zz))
          go_at_call 41
          refine (hg5.out _).mono ?_
          rintro e w12 ⟨rfl, g12⟩
          have S12 := Lib.hid (S11.out.gr g12)
          have gA := (Gr.refl w12).alloc (.cells (rdC st5) 77)
          have gB := gA.alloc (.cells #[.int .u64 (n64 x), .int .u64 (n64 y)] 31)
          have S13 := Lib.hid (S12.out.gr gB)
          have U13 := Blk.new (w12.alloc (.cells (rdC st5) 77)) 31 #[.int .u64 (n64 x), .int .u64 (n64 y)]
          rw [World.size_alloc] at U13
          replace U13 := Lib.hid U13
          have hz12 := S12.out.lt
          clear S9 S10 S11 S12 f3 y3 d0 d1 gA gB g12 hg5
          have hen := Lib.hid (fun w => refEnd_any st5 w)
          have hRg := hRg.out
          try unfold fin at hRg
          obtain ⟨q, hq⟩ : ∃ q, ended st5 = q := ⟨_, rfl⟩
          simp only [hq] at hRg
          rw [hq] at hen
          clear hq
          by_cases hq0 : q = 0
          · rw [if_neg (by simpa using hq0)] at hRg
            subst hq0
            obtain ⟨b, hb⟩ : ∃ b, right ⟨(z : Int), out, (t : Int), (UInt32.ofNat v, x, y)⟩ = b := ⟨_, rfl⟩
            have hro := Lib.hid (fun w => refRight_any ⟨(z : Int), out, (t : Int), (UInt32.ofNat v, x, y)⟩ A0 c0 w)
            rw [hb] at hRg hro
            clear hb
            replace hRg := Lib.hid hRg
            go_wp2_with (first
              | ((with_reducible refine wpList_isStore 77 (.tmp 4) (.tmp 92) rfl ?_); refine wpList_store_blk rfl 77 (.tmp 4) (.tmp 92) rfl (w.heap.size + 1) (rdC st5) rfl rfl 77 _ S13.out.rd rdInfo rfl (by simp [Value.oneCell']) ?_; intro w14 nn kk zz; have S14 := Lib.hid (S13.out.put nn kk); have U14 := kk.blk U13.out (by omega); have u0 := U14.cell 0; have u1 := U14.cell 1; have f4 := S14.out.bs.frozen 4; have f5 := S14.out.bs.frozen 5; have y4 := S14.out.bs.cell 4; have y5 := S14.out.bs.cell 5; have S15 := Lib.hid ((S14.out.set 4 (.int .u64 (n64 x))).set 5 (.int .u64 (n64 y))); have d0 := S15.out.rd.cell 0; have d1 := S15.out.rd.cell 1; clear U14; clear nn kk zz))
            go_at_call 42
            refine (hen.out _).mono ?_
            rintro e w8 ⟨rfl, g8⟩
            have E8 := Lib.hid (S15.out.gr g8)
            clear hen g8 S15 d0 d1 S13 S14 U13 u0 u1 f4 f5 y4 y5
            go_wp2_with (first
              | ((with_reducible refine wpList_isLoad 45 (.tmp 5) rfl ?_); refine wpList_load_row rfl 45 (.tmp 5) rfl (w.heap.size + 2) rfl 45 _ (0, 0) _ E8.out.bs Try.underlying45 rfl (refSigInfo _ _ _ _ _ _) ?_))
            go_at_call 25
            refine (hro.out _).mono ?_
            rintro e w9' ⟨rfl, g9⟩
            have E9 := Lib.hid (E8.out.gr g9)
            clear E8 g9 hro
            cases b
            · have hRe := hRg.out
              rw [if_neg (by simp)] at hRe
              subst hRe
              clear hRg
              go_wp2_with (first
                | ((with_reducible refine wpList_isLoad 45 (.tmp 5) rfl ?_); refine wpList_load_row rfl 45 (.tmp 5) rfl (w.heap.size + 2) rfl 45 _ (0, 0) _ E9.out.bs Try.underlying45 rfl (refSigInfo _ _ _ _ _ _) ?_)
                | ((with_reducible refine wpList_isStore 45 (.tmp 2) (.tmp 105) rfl ?_); refine wpList_store_blk rfl 45 (.tmp 2) (.tmp 105) rfl w.heap.size sigZ2 rfl rfl 45 sigZ2 E9.out.br (refSigInfo _ _ _ _ _ _) rfl (by simp [Value.oneCell']) ?_; intro w9 n9 k9 z9; have x0 := n9.cell 0; have x1 := n9.cell 1; have x2 := n9.cell 2; have x3 := n9.cell 3; have x4 := n9.cell 4; have x5 := n9.cell 5; have B9 := Lib.hid (below_kb2 E9.out.bel k9 (Nat.le_refl _)); have O9 := Lib.hid (os_kb E9.out.os k9 (by omega)); clear n9 k9 z9))
              exact bodyPost_ret (v := .tuple #[.agg sigZ2, .int .i64 (3 : Int)]) (by simp [results, Try.results21, go_sem, x0, x1, x2, x3, x4, x5]) rfl ⟨none, 0, rfl, OS.nil_ _ _ _, B9.out⟩
            · have hRe := hRg.out
              rw [if_pos rfl] at hRe
              subst hRe
              clear hRg
              go_wp2_with (first
                | ((with_reducible refine wpList_isLoad 45 (.tmp 5) rfl ?_); refine wpList_load_row rfl 45 (.tmp 5) rfl (w.heap.size + 2) rfl 45 _ (0, 0) _ E9.out.bs Try.underlying45 rfl (refSigInfo _ _ _ _ _ _) ?_)
                | ((with_reducible refine wpList_isStore 45 (.tmp 2) (.tmp 106) rfl ?_); refine wpList_store_blk rfl 45 (.tmp 2) (.tmp 106) rfl w.heap.size (sigC (z : Int) (.slice A0 out.length c0) (t : Int) (UInt32.ofNat v, x, y)) rfl rfl 45 sigZ2 E9.out.br (refSigInfo _ _ _ _ _ _) rfl (by simp [Value.oneCell']) ?_; intro w9 n9 k9 z9; have x0 := n9.cell 0; have x1 := n9.cell 1; have x2 := n9.cell 2; have x3 := n9.cell 3; have x4 := n9.cell 4; have x5 := n9.cell 5; have B9 := Lib.hid (below_kb2 E9.out.bel k9 (Nat.le_refl _)); have O9 := Lib.hid (os_kb E9.out.os k9 (by omega)); clear n9 k9 z9))
              exact bodyPost_ret (v := .tuple #[.agg (sigC (z : Int) (.slice A0 out.length c0) (t : Int) (UInt32.ofNat v, x, y)), .int .i64 (0 : Int)]) (by simp [results, Try.results21, go_sem, x0, x1, x2, x3, x4, x5]) rfl ⟨A0, c0, rfl, OR.base_le O9.out (by omega), B9.out⟩
          · rw [if_pos hq0] at hRg
            subst hRg
            have hqi : ((q : Int) == 0) = false := by simp [hq0]
            have hqb : ¬ (q : Int) = 0 := by omega
            go_wp2_with (first
              | ((with_reducible refine wpList_isStore 77 (.tmp 4) (.tmp 92) rfl ?_); refine wpList_store_blk rfl 77 (.tmp 4) (.tmp 92) rfl (w.heap.size + 1) (rdC st5) rfl rfl 77 _ S13.out.rd rdInfo rfl (by simp [Value.oneCell']) ?_; intro w14 nn kk zz; have S14 := Lib.hid (S13.out.put nn kk); have U14 := kk.blk U13.out (by omega); have u0 := U14.cell 0; have u1 := U14.cell 1; have f4 := S14.out.bs.frozen 4; have f5 := S14.out.bs.frozen 5; have y4 := S14.out.bs.cell 4; have y5 := S14.out.bs.cell 5; have S15 := Lib.hid ((S14.out.set 4 (.int .u64 (n64 x))).set 5 (.int .u64 (n64 y))); have d0 := S15.out.rd.cell 0; have d1 := S15.out.rd.cell 1; clear U14; clear nn kk zz))
            go_at_call 42
            refine (hen.out _).mono ?_
            rintro e w8 ⟨rfl, g8⟩
            have E8 := Lib.hid (S15.out.gr g8)
            clear g8 S15 d0 d1 S13 S14 U13 u0 u1 f4 f5 y4 y5
            have d0 := E8.out.rd.cell 0
            have d1 := E8.out.rd.cell 1
            go_wp2_with fail
            go_at_call 42
            refine (hen.out _).mono ?_
            rintro e w9' ⟨rfl, g9⟩
            have E9 := Lib.hid (E8.out.gr g9)
            clear g9 E8 d0 d1 hen
            go_wp2_with (first
              | ((with_reducible refine wpList_isLoad 45 (.tmp 5) rfl ?_); refine wpList_load_row rfl 45 (.tmp 5) rfl (w.heap.size + 2) rfl 45 _ (0, 0) _ E9.out.bs Try.underlying45 rfl (refSigInfo _ _ _ _ _ _) ?_)
              | ((with_reducible refine wpList_isStore 45 (.tmp 2) (.tmp 99) rfl ?_); refine wpList_store_blk rfl 45 (.tmp 2) (.tmp 99) rfl w.heap.size sigZ2 rfl rfl 45 sigZ2 E9.out.br (refSigInfo _ _ _ _ _ _) rfl (by simp [Value.oneCell']) ?_; intro w9 n9 k9 z9; have x0 := n9.cell 0; have x1 := n9.cell 1; have x2 := n9.cell 2; have x3 := n9.cell 3; have x4 := n9.cell 4; have x5 := n9.cell 5; have B9 := Lib.hid (below_kb2 E9.out.bel k9 (Nat.le_refl _)); have O9 := Lib.hid (os_kb E9.out.os k9 (by omega)); clear n9 k9 z9))
            exact bodyPost_ret (v := .tuple #[.agg sigZ2, .int .i64 ((q : Nat) : Int)]) (by simp [results, Try.results21, go_sem, x0, x1, x2, x3, x4, x5]) rfl ⟨none, 0, rfl, OS.nil_ _ _ _, B9.out⟩
        · obtain rfl : t = 0 := by omega
          have hRg := hRf.out
          unfold lastR at hRg
          rw [if_neg ht] at hRg
          unfold fin at hRg
          rw [show ((0 : Nat) : Int) = 0 from rfl] at hRg
          replace hRg := Lib.hid hRg
          clear hRf ht
          have hen := Lib.hid (fun w => refEnd_any st3 w)
          have hRg := hRg.out
          try unfold fin at hRg
          obtain ⟨q, hq⟩ : ∃ q, ended st3 = q := ⟨_, rfl⟩
          simp only [hq] at hRg
          rw [hq] at hen
          clear hq
          by_cases hq0 : q = 0
          · rw [if_neg (by simpa using hq0)] at hRg
            subst hq0
            obtain ⟨b, hb⟩ : ∃ b, right ⟨(z : Int), out, (0 : Int), zero⟩ = b := ⟨_, rfl⟩
            have hro := Lib.hid (fun w => refRight_any ⟨(z : Int), out, (0 : Int), zero⟩ A0 c0 w)
            rw [hb] at hRg hro
            clear hb
            replace hRg := Lib.hid hRg
            go_wp2_with (first
              | ((with_reducible refine wpList_isStore 77 (.tmp 4) (.tmp 72) rfl ?_); refine wpList_store_blk rfl 77 (.tmp 4) (.tmp 72) rfl (w.heap.size + 1) (rdC st3) rfl rfl 77 _ S6.out.rd rdInfo rfl (by simp [Value.oneCell']) ?_; intro w7 nn kk zz; have S7 := Lib.hid (S6.out.put nn kk); have f2 := S7.out.bs.frozen 2; have y2 := S7.out.bs.cell 2; have S8 := Lib.hid (S7.out.set 2 (.int .i64 0)); have u2 := S8.out.bs.cell 2; have d0 := S8.out.rd.cell 0; have d1 := S8.out.rd.cell 1; clear nn kk zz))
            go_at_call 42
            refine (hen.out _).mono ?_
            rintro e w8 ⟨rfl, g8⟩
            have E8 := Lib.hid (S8.out.gr g8)
            clear hen g8 S8 d0 d1 S6 S7 f2 y2 u2
            go_wp2_with (first
              | ((with_reducible refine wpList_isLoad 45 (.tmp 5) rfl ?_); refine wpList_load_row rfl 45 (.tmp 5) rfl (w.heap.size + 2) rfl 45 _ (0, 0) _ E8.out.bs Try.underlying45 rfl (refSigInfo _ _ _ _ _ _) ?_))
            go_at_call 25
            refine (hro.out _).mono ?_
            rintro e w9' ⟨rfl, g9⟩
            have E9 := Lib.hid (E8.out.gr g9)
            clear E8 g9 hro
            cases b
            · have hRe := hRg.out
              rw [if_neg (by simp)] at hRe
              subst hRe
              clear hRg
              go_wp2_with (first
                | ((with_reducible refine wpList_isLoad 45 (.tmp 5) rfl ?_); refine wpList_load_row rfl 45 (.tmp 5) rfl (w.heap.size + 2) rfl 45 _ (0, 0) _ E9.out.bs Try.underlying45 rfl (refSigInfo _ _ _ _ _ _) ?_)
                | ((with_reducible refine wpList_isStore 45 (.tmp 2) (.tmp 105) rfl ?_); refine wpList_store_blk rfl 45 (.tmp 2) (.tmp 105) rfl w.heap.size sigZ2 rfl rfl 45 sigZ2 E9.out.br (refSigInfo _ _ _ _ _ _) rfl (by simp [Value.oneCell']) ?_; intro w9 n9 k9 z9; have x0 := n9.cell 0; have x1 := n9.cell 1; have x2 := n9.cell 2; have x3 := n9.cell 3; have x4 := n9.cell 4; have x5 := n9.cell 5; have B9 := Lib.hid (below_kb2 E9.out.bel k9 (Nat.le_refl _)); have O9 := Lib.hid (os_kb E9.out.os k9 (by omega)); clear n9 k9 z9))
              exact bodyPost_ret (v := .tuple #[.agg sigZ2, .int .i64 (3 : Int)]) (by simp [results, Try.results21, go_sem, x0, x1, x2, x3, x4, x5]) rfl ⟨none, 0, rfl, OS.nil_ _ _ _, B9.out⟩
            · have hRe := hRg.out
              rw [if_pos rfl] at hRe
              subst hRe
              clear hRg
              go_wp2_with (first
                | ((with_reducible refine wpList_isLoad 45 (.tmp 5) rfl ?_); refine wpList_load_row rfl 45 (.tmp 5) rfl (w.heap.size + 2) rfl 45 _ (0, 0) _ E9.out.bs Try.underlying45 rfl (refSigInfo _ _ _ _ _ _) ?_)
                | ((with_reducible refine wpList_isStore 45 (.tmp 2) (.tmp 106) rfl ?_); refine wpList_store_blk rfl 45 (.tmp 2) (.tmp 106) rfl w.heap.size (sigC (z : Int) (.slice A0 out.length c0) (0 : Int) zero) rfl rfl 45 sigZ2 E9.out.br (refSigInfo _ _ _ _ _ _) rfl (by simp [Value.oneCell']) ?_; intro w9 n9 k9 z9; have x0 := n9.cell 0; have x1 := n9.cell 1; have x2 := n9.cell 2; have x3 := n9.cell 3; have x4 := n9.cell 4; have x5 := n9.cell 5; have B9 := Lib.hid (below_kb2 E9.out.bel k9 (Nat.le_refl _)); have O9 := Lib.hid (os_kb E9.out.os k9 (by omega)); clear n9 k9 z9))
              exact bodyPost_ret (v := .tuple #[.agg (sigC (z : Int) (.slice A0 out.length c0) (0 : Int) zero), .int .i64 (0 : Int)]) (by simp [results, Try.results21, go_sem, x0, x1, x2, x3, x4, x5]) rfl ⟨A0, c0, rfl, OR.base_le O9.out (by omega), B9.out⟩
          · rw [if_pos hq0] at hRg
            subst hRg
            have hqi : ((q : Int) == 0) = false := by simp [hq0]
            have hqb : ¬ (q : Int) = 0 := by omega
            go_wp2_with (first
              | ((with_reducible refine wpList_isStore 77 (.tmp 4) (.tmp 72) rfl ?_); refine wpList_store_blk rfl 77 (.tmp 4) (.tmp 72) rfl (w.heap.size + 1) (rdC st3) rfl rfl 77 _ S6.out.rd rdInfo rfl (by simp [Value.oneCell']) ?_; intro w7 nn kk zz; have S7 := Lib.hid (S6.out.put nn kk); have f2 := S7.out.bs.frozen 2; have y2 := S7.out.bs.cell 2; have S8 := Lib.hid (S7.out.set 2 (.int .i64 0)); have u2 := S8.out.bs.cell 2; have d0 := S8.out.rd.cell 0; have d1 := S8.out.rd.cell 1; clear nn kk zz))
            go_at_call 42
            refine (hen.out _).mono ?_
            rintro e w8 ⟨rfl, g8⟩
            have E8 := Lib.hid (S8.out.gr g8)
            clear g8 S8 d0 d1 S6 S7 f2 y2 u2
            have d0 := E8.out.rd.cell 0
            have d1 := E8.out.rd.cell 1
            go_wp2_with fail
            go_at_call 42
            refine (hen.out _).mono ?_
            rintro e w9' ⟨rfl, g9⟩
            have E9 := Lib.hid (E8.out.gr g9)
            clear g9 E8 d0 d1 hen
            go_wp2_with (first
              | ((with_reducible refine wpList_isLoad 45 (.tmp 5) rfl ?_); refine wpList_load_row rfl 45 (.tmp 5) rfl (w.heap.size + 2) rfl 45 _ (0, 0) _ E9.out.bs Try.underlying45 rfl (refSigInfo _ _ _ _ _ _) ?_)
              | ((with_reducible refine wpList_isStore 45 (.tmp 2) (.tmp 99) rfl ?_); refine wpList_store_blk rfl 45 (.tmp 2) (.tmp 99) rfl w.heap.size sigZ2 rfl rfl 45 sigZ2 E9.out.br (refSigInfo _ _ _ _ _ _) rfl (by simp [Value.oneCell']) ?_; intro w9 n9 k9 z9; have x0 := n9.cell 0; have x1 := n9.cell 1; have x2 := n9.cell 2; have x3 := n9.cell 3; have x4 := n9.cell 4; have x5 := n9.cell 5; have B9 := Lib.hid (below_kb2 E9.out.bel k9 (Nat.le_refl _)); have O9 := Lib.hid (os_kb E9.out.os k9 (by omega)); clear n9 k9 z9))
            exact bodyPost_ret (v := .tuple #[.agg sigZ2, .int .i64 ((q : Nat) : Int)]) (by simp [results, Try.results21, go_sem, x0, x1, x2, x3, x4, x5]) rfl ⟨none, 0, rfl, OS.nil_ _ _ _, B9.out⟩
    · obtain rfl : k = n := by omega
      rw [Nat.sub_self, rowsF] at hQ
      subst hQ
      clear hok hk h
      have hRf := hR.out
      unfold fin2 at hRf
      simp only at hRf
      have hg3 := Lib.hid (fun w => show Calls Try.prog 39 #[rsV st, .int .i64 63] w fun e w' => e = .returned (getIV (get st 63)) ∧ Gr w w' from refInt_any st 63 w (by omega) (by omega))
      have hs3 := get_short' st 63
      have hl3 := get_le st 63
      generalize get st 63 = p at *
      obtain ⟨st3, t⟩ := p
      simp only at hRf hg3 hs3 hl3
      replace hRf := Lib.hid hRf
      clear hR S
      go_wp2_with fail
      go_at_call 39
      refine (hg3.out _).mono ?_
      rintro e w6 ⟨rfl, g6⟩
      have S6 := Lib.hid ((hS.out.gr g6).gr ((Gr.refl w6).alloc (.cells (rdC st3) 77)))
      clear hS g6 hg3 d0 d1
      by_cases ht : 0 < t
      · have ht' : (0 : Int) < (t : Int) := by omega
        have hRg := hRf.out
        unfold lastR at hRg
        rw [if_pos ht] at hRg
        unfold one at hRg
        have hg4 := Lib.hid (fun w => run_refGet st3 w (by omega))
        have hs4 := get_short' st3 4294967295
        generalize get st3 4294967295 = p at *
        obtain ⟨st4, v⟩ := p
        simp only at hRg hg4 hs4
        have hg5 := Lib.hid (fun w => refSum2_any st4 w (by omega))
        generalize getSum st4 = p at *
        obtain ⟨st5, x, y⟩ := p
        simp only at hRg hg5
        replace hRg := Lib.hid hRg
        clear hRf
        go_wp2_with (first
                  | ((with_reducible refine wpList_isStore 77 (.tmp 4) (.tmp 72) rfl ?_); refine wpList_store_blk rfl 77 (.tmp 4) (.tmp 72) rfl (w.heap.size + 1) (rdC st3) rfl rfl 77 _ S6.out.rd rdInfo rfl (by simp [Value.oneCell']) ?_; intro w7 nn kk zz; have S7 := Lib.hid (S6.out.put nn kk); have f2 := S7.out.bs.frozen 2; have y2 := S7.out.bs.cell 2; have S8 := Lib.hid (S7.out.set 2 (.int .i64 (t : Int))); have u2 := S8.out.bs.cell 2; have d0 := S8.out.rd.cell 0; have d1 := S8.out.rd.cell 1; clear nn kk zz))
        go_at_call 40
        refine (hg4.out _).mono ?_
        rintro e w9 ⟨rfl, g9⟩
        have S9 := Lib.hid (S8.out.gr g9)
        clear S6 S7 S8 f2 y2 u2 d0 d1 g9 hg4
        go_wp2_with (first
                  | ((with_reducible refine wpList_isStore 77 (.tmp 4) (.tmp 81) rfl ?_); refine wpList_store_blk rfl 77 (.tmp 4) (.tmp 81) rfl (w.heap.size + 1) (rdC st4) rfl rfl 77 _ S9.out.rd rdInfo rfl (by simp [Value.oneCell']) ?_; intro w10 nn kk zz; have S10 := Lib.hid (S9.out.put nn kk); have f3 := S10.out.bs.frozen 3; have y3 := S10.out.bs.cell 3; have S11 := Lib.hid (S10.out.set 3 (.int .u32 (n32 (UInt32.ofNat v)))); have d0 := S11.out.rd.cell 0; have d1 := S11.out.rd.cell 1; clear nn kk zz))
        go_at_call 41
        refine (hg5.out _).mono ?_
        rintro e w12 ⟨rfl, g12⟩
        have S12 := Lib.hid (S11.out.gr g12)
        have gA := (Gr.refl w12).alloc (.cells (rdC st5) 77)
        have gB := gA.alloc (.cells #[.int .u64 (n64 x), .int .u64 (n64 y)] 31)
        have S13 := Lib.hid (S12.out.gr gB)
        have U13 := Blk.new (w12.alloc (.cells (rdC st5) 77)) 31 #[.int .u64 (n64 x), .int .u64 (n64 y)]
        rw [World.size_alloc] at U13
        replace U13 := Lib.hid U13
        have hz12 := S12.out.lt
        clear S9 S10 S11 S12 f3 y3 d0 d1 gA gB g12 hg5
        have hen := Lib.hid (fun w => refEnd_any st5 w)
        have hRg := hRg.out
        try unfold fin at hRg
        obtain ⟨q, hq⟩ : ∃ q, ended st5 = q := ⟨_, rfl⟩
        simp only [hq] at hRg
        rw [hq] at hen
        clear hq
        by_cases hq0 : q = 0
        · rw [if_neg (by simpa using hq0)] at hRg
          subst hq0
          obtain ⟨b, hb⟩ : ∃ b, right ⟨(z : Int), out, (t : Int), (UInt32.ofNat v, x, y)⟩ = b := ⟨_, rfl⟩
          have hro := Lib.hid (fun w => refRight_any ⟨(z : Int), out, (t : Int), (UInt32.ofNat v, x, y)⟩ A0 c0 w)
          rw [hb] at hRg hro
          clear hb
          replace hRg := Lib.hid hRg
          go_wp2_with (first
            | ((with_reducible refine wpList_isStore 77 (.tmp 4) (.tmp 92) rfl ?_); refine wpList_store_blk rfl 77 (.tmp 4) (.tmp 92) rfl (w.heap.size + 1) (rdC st5) rfl rfl 77 _ S13.out.rd rdInfo rfl (by simp [Value.oneCell']) ?_; intro w14 nn kk zz; have S14 := Lib.hid (S13.out.put nn kk); have U14 := kk.blk U13.out (by omega); have u0 := U14.cell 0; have u1 := U14.cell 1; have f4 := S14.out.bs.frozen 4; have f5 := S14.out.bs.frozen 5; have y4 := S14.out.bs.cell 4; have y5 := S14.out.bs.cell 5; have S15 := Lib.hid ((S14.out.set 4 (.int .u64 (n64 x))).set 5 (.int .u64 (n64 y))); have d0 := S15.out.rd.cell 0; have d1 := S15.out.rd.cell 1; clear U14; clear nn kk zz))
          go_at_call 42
          refine (hen.out _).mono ?_
          rintro e w8 ⟨rfl, g8⟩
          have E8 := Lib.hid (S15.out.gr g8)
          clear hen g8 S15 d0 d1 S13 S14 U13 u0 u1 f4 f5 y4 y5
          go_wp2_with (first
            | ((with_reducible refine wpList_isLoad 45 (.tmp 5) rfl ?_); refine wpList_load_row rfl 45 (.tmp 5) rfl (w.heap.size + 2) rfl 45 _ (0, 0) _ E8.out.bs Try.underlying45 rfl (refSigInfo _ _ _ _ _ _) ?_))
          go_at_call 25
          refine (hro.out _).mono ?_
          rintro e w9' ⟨rfl, g9⟩
          have E9 := Lib.hid (E8.out.gr g9)
          clear E8 g9 hro
          cases b
          · have hRe := hRg.out
            rw [if_neg (by simp)] at hRe
            subst hRe
            clear hRg
            go_wp2_with (first
              | ((with_reducible refine wpList_isLoad 45 (.tmp 5) rfl ?_); refine wpList_load_row rfl 45 (.tmp 5) rfl (w.heap.size + 2) rfl 45 _ (0, 0) _ E9.out.bs Try.underlying45 rfl (refSigInfo _ _ _ _ _ _) ?_)
              | ((with_reducible refine wpList_isStore 45 (.tmp 2) (.tmp 105) rfl ?_); refine wpList_store_blk rfl 45 (.tmp 2) (.tmp 105) rfl w.heap.size sigZ2 rfl rfl 45 sigZ2 E9.out.br (refSigInfo _ _ _ _ _ _) rfl (by simp [Value.oneCell']) ?_; intro w9 n9 k9 z9; have x0 := n9.cell 0; have x1 := n9.cell 1; have x2 := n9.cell 2; have x3 := n9.cell 3; have x4 := n9.cell 4; have x5 := n9.cell 5; have B9 := Lib.hid (below_kb2 E9.out.bel k9 (Nat.le_refl _)); have O9 := Lib.hid (os_kb E9.out.os k9 (by omega)); clear n9 k9 z9))
            exact bodyPost_ret (v := .tuple #[.agg sigZ2, .int .i64 (3 : Int)]) (by simp [results, Try.results21, go_sem, x0, x1, x2, x3, x4, x5]) rfl ⟨none, 0, rfl, OS.nil_ _ _ _, B9.out⟩
          · have hRe := hRg.out
            rw [if_pos rfl] at hRe
            subst hRe
            clear hRg
            go_wp2_with (first
              | ((with_reducible refine wpList_isLoad 45 (.tmp 5) rfl ?_); refine wpList_load_row rfl 45 (.tmp 5) rfl (w.heap.size + 2) rfl 45 _ (0, 0) _ E9.out.bs Try.underlying45 rfl (refSigInfo _ _ _ _ _ _) ?_)
              | ((with_reducible refine wpList_isStore 45 (.tmp 2) (.tmp 106) rfl ?_); refine wpList_store_blk rfl 45 (.tmp 2) (.tmp 106) rfl w.heap.size (sigC (z : Int) (.slice A0 out.length c0) (t : Int) (UInt32.ofNat v, x, y)) rfl rfl 45 sigZ2 E9.out.br (refSigInfo _ _ _ _ _ _) rfl (by simp [Value.oneCell']) ?_; intro w9 n9 k9 z9; have x0 := n9.cell 0; have x1 := n9.cell 1; have x2 := n9.cell 2; have x3 := n9.cell 3; have x4 := n9.cell 4; have x5 := n9.cell 5; have B9 := Lib.hid (below_kb2 E9.out.bel k9 (Nat.le_refl _)); have O9 := Lib.hid (os_kb E9.out.os k9 (by omega)); clear n9 k9 z9))
            exact bodyPost_ret (v := .tuple #[.agg (sigC (z : Int) (.slice A0 out.length c0) (t : Int) (UInt32.ofNat v, x, y)), .int .i64 (0 : Int)]) (by simp [results, Try.results21, go_sem, x0, x1, x2, x3, x4, x5]) rfl ⟨A0, c0, rfl, OR.base_le O9.out (by omega), B9.out⟩
        · rw [if_pos hq0] at hRg
          subst hRg
          have hqi : ((q : Int) == 0) = false := by simp [hq0]
          have hqb : ¬ (q : Int) = 0 := by omega
          go_wp2_with (first
            | ((with_reducible refine wpList_isStore 77 (.tmp 4) (.tmp 92) rfl ?_); refine wpList_store_blk rfl 77 (.tmp 4) (.tmp 92) rfl (w.heap.size + 1) (rdC st5) rfl rfl 77 _ S13.out.rd rdInfo rfl (by simp [Value.oneCell']) ?_; intro w14 nn kk zz; have S14 := Lib.hid (S13.out.put nn kk); have U14 := kk.blk U13.out (by omega); have u0 := U14.cell 0; have u1 := U14.cell 1; have f4 := S14.out.bs.frozen 4; have f5 := S14.out.bs.frozen 5; have y4 := S14.out.bs.cell 4; have y5 := S14.out.bs.cell 5; have S15 := Lib.hid ((S14.out.set 4 (.int .u64 (n64 x))).set 5 (.int .u64 (n64 y))); have d0 := S15.out.rd.cell 0; have d1 := S15.out.rd.cell 1; clear U14; clear nn kk zz))
          go_at_call 42
          refine (hen.out _).mono ?_
          rintro e w8 ⟨rfl, g8⟩
          have E8 := Lib.hid (S15.out.gr g8)
          clear g8 S15 d0 d1 S13 S14 U13 u0 u1 f4 f5 y4 y5
          have d0 := E8.out.rd.cell 0
          have d1 := E8.out.rd.cell 1
          go_wp2_with fail
          go_at_call 42
          refine (hen.out _).mono ?_
          rintro e w9' ⟨rfl, g9⟩
          have E9 := Lib.hid (E8.out.gr g9)
          clear g9 E8 d0 d1 hen
          go_wp2_with (first
            | ((with_reducible refine wpList_isLoad 45 (.tmp 5) rfl ?_); refine wpList_load_row rfl 45 (.tmp 5) rfl (w.heap.size + 2) rfl 45 _ (0, 0) _ E9.out.bs Try.underlying45 rfl (refSigInfo _ _ _ _ _ _) ?_)
            | ((with_reducible refine wpList_isStore 45 (.tmp 2) (.tmp 99) rfl ?_); refine wpList_store_blk rfl 45 (.tmp 2) (.tmp 99) rfl w.heap.size sigZ2 rfl rfl 45 sigZ2 E9.out.br (refSigInfo _ _ _ _ _ _) rfl (by simp [Value.oneCell']) ?_; intro w9 n9 k9 z9; have x0 := n9.cell 0; have x1 := n9.cell 1; have x2 := n9.cell 2; have x3 := n9.cell 3; have x4 := n9.cell 4; have x5 := n9.cell 5; have B9 := Lib.hid (below_kb2 E9.out.bel k9 (Nat.le_refl _)); have O9 := Lib.hid (os_kb E9.out.os k9 (by omega)); clear n9 k9 z9))
          exact bodyPost_ret (v := .tuple #[.agg sigZ2, .int .i64 ((q : Nat) : Int)]) (by simp [results, Try.results21, go_sem, x0, x1, x2, x3, x4, x5]) rfl ⟨none, 0, rfl, OS.nil_ _ _ _, B9.out⟩
      · obtain rfl : t = 0 := by omega
        have hRg := hRf.out
        unfold lastR at hRg
        rw [if_neg ht] at hRg
        unfold fin at hRg
        rw [show ((0 : Nat) : Int) = 0 from rfl] at hRg
        replace hRg := Lib.hid hRg
        clear hRf ht
        have hen := Lib.hid (fun w => refEnd_any st3 w)
        have hRg := hRg.out
        try unfold fin at hRg
        obtain ⟨q, hq⟩ : ∃ q, ended st3 = q := ⟨_, rfl⟩
        simp only [hq] at hRg
        rw [hq] at hen
        clear hq
        by_cases hq0 : q = 0
        · rw [if_neg (by simpa using hq0)] at hRg
          subst hq0
          obtain ⟨b, hb⟩ : ∃ b, right ⟨(z : Int), out, (0 : Int), zero⟩ = b := ⟨_, rfl⟩
          have hro := Lib.hid (fun w => refRight_any ⟨(z : Int), out, (0 : Int), zero⟩ A0 c0 w)
          rw [hb] at hRg hro
          clear hb
          replace hRg := Lib.hid hRg
          go_wp2_with (first
            | ((with_reducible refine wpList_isStore 77 (.tmp 4) (.tmp 72) rfl ?_); refine wpList_store_blk rfl 77 (.tmp 4) (.tmp 72) rfl (w.heap.size + 1) (rdC st3) rfl rfl 77 _ S6.out.rd rdInfo rfl (by simp [Value.oneCell']) ?_; intro w7 nn kk zz; have S7 := Lib.hid (S6.out.put nn kk); have f2 := S7.out.bs.frozen 2; have y2 := S7.out.bs.cell 2; have S8 := Lib.hid (S7.out.set 2 (.int .i64 0)); have u2 := S8.out.bs.cell 2; have d0 := S8.out.rd.cell 0; have d1 := S8.out.rd.cell 1; clear nn kk zz))
          go_at_call 42
          refine (hen.out _).mono ?_
          rintro e w8 ⟨rfl, g8⟩
          have E8 := Lib.hid (S8.out.gr g8)
          clear hen g8 S8 d0 d1 S6 S7 f2 y2 u2
          go_wp2_with (first
            | ((with_reducible refine wpList_isLoad 45 (.tmp 5) rfl ?_); refine wpList_load_row rfl 45 (.tmp 5) rfl (w.heap.size + 2) rfl 45 _ (0, 0) _ E8.out.bs Try.underlying45 rfl (refSigInfo _ _ _ _ _ _) ?_))
          go_at_call 25
          refine (hro.out _).mono ?_
          rintro e w9' ⟨rfl, g9⟩
          have E9 := Lib.hid (E8.out.gr g9)
          clear E8 g9 hro
          cases b
          · have hRe := hRg.out
            rw [if_neg (by simp)] at hRe
            subst hRe
            clear hRg
            go_wp2_with (first
              | ((with_reducible refine wpList_isLoad 45 (.tmp 5) rfl ?_); refine wpList_load_row rfl 45 (.tmp 5) rfl (w.heap.size + 2) rfl 45 _ (0, 0) _ E9.out.bs Try.underlying45 rfl (refSigInfo _ _ _ _ _ _) ?_)
              | ((with_reducible refine wpList_isStore 45 (.tmp 2) (.tmp 105) rfl ?_); refine wpList_store_blk rfl 45 (.tmp 2) (.tmp 105) rfl w.heap.size sigZ2 rfl rfl 45 sigZ2 E9.out.br (refSigInfo _ _ _ _ _ _) rfl (by simp [Value.oneCell']) ?_; intro w9 n9 k9 z9; have x0 := n9.cell 0; have x1 := n9.cell 1; have x2 := n9.cell 2; have x3 := n9.cell 3; have x4 := n9.cell 4; have x5 := n9.cell 5; have B9 := Lib.hid (below_kb2 E9.out.bel k9 (Nat.le_refl _)); have O9 := Lib.hid (os_kb E9.out.os k9 (by omega)); clear n9 k9 z9))
            exact bodyPost_ret (v := .tuple #[.agg sigZ2, .int .i64 (3 : Int)]) (by simp [results, Try.results21, go_sem, x0, x1, x2, x3, x4, x5]) rfl ⟨none, 0, rfl, OS.nil_ _ _ _, B9.out⟩
          · have hRe := hRg.out
            rw [if_pos rfl] at hRe
            subst hRe
            clear hRg
            go_wp2_with (first
              | ((with_reducible refine wpList_isLoad 45 (.tmp 5) rfl ?_); refine wpList_load_row rfl 45 (.tmp 5) rfl (w.heap.size + 2) rfl 45 _ (0, 0) _ E9.out.bs Try.underlying45 rfl (refSigInfo _ _ _ _ _ _) ?_)
              | ((with_reducible refine wpList_isStore 45 (.tmp 2) (.tmp 106) rfl ?_); refine wpList_store_blk rfl 45 (.tmp 2) (.tmp 106) rfl w.heap.size (sigC (z : Int) (.slice A0 out.length c0) (0 : Int) zero) rfl rfl 45 sigZ2 E9.out.br (refSigInfo _ _ _ _ _ _) rfl (by simp [Value.oneCell']) ?_; intro w9 n9 k9 z9; have x0 := n9.cell 0; have x1 := n9.cell 1; have x2 := n9.cell 2; have x3 := n9.cell 3; have x4 := n9.cell 4; have x5 := n9.cell 5; have B9 := Lib.hid (below_kb2 E9.out.bel k9 (Nat.le_refl _)); have O9 := Lib.hid (os_kb E9.out.os k9 (by omega)); clear n9 k9 z9))
            exact bodyPost_ret (v := .tuple #[.agg (sigC (z : Int) (.slice A0 out.length c0) (0 : Int) zero), .int .i64 (0 : Int)]) (by simp [results, Try.results21, go_sem, x0, x1, x2, x3, x4, x5]) rfl ⟨A0, c0, rfl, OR.base_le O9.out (by omega), B9.out⟩
        · rw [if_pos hq0] at hRg
          subst hRg
          have hqi : ((q : Int) == 0) = false := by simp [hq0]
          have hqb : ¬ (q : Int) = 0 := by omega
          go_wp2_with (first
            | ((with_reducible refine wpList_isStore 77 (.tmp 4) (.tmp 72) rfl ?_); refine wpList_store_blk rfl 77 (.tmp 4) (.tmp 72) rfl (w.heap.size + 1) (rdC st3) rfl rfl 77 _ S6.out.rd rdInfo rfl (by simp [Value.oneCell']) ?_; intro w7 nn kk zz; have S7 := Lib.hid (S6.out.put nn kk); have f2 := S7.out.bs.frozen 2; have y2 := S7.out.bs.cell 2; have S8 := Lib.hid (S7.out.set 2 (.int .i64 0)); have u2 := S8.out.bs.cell 2; have d0 := S8.out.rd.cell 0; have d1 := S8.out.rd.cell 1; clear nn kk zz))
          go_at_call 42
          refine (hen.out _).mono ?_
          rintro e w8 ⟨rfl, g8⟩
          have E8 := Lib.hid (S8.out.gr g8)
          clear g8 S8 d0 d1 S6 S7 f2 y2 u2
          have d0 := E8.out.rd.cell 0
          have d1 := E8.out.rd.cell 1
          go_wp2_with fail
          go_at_call 42
          refine (hen.out _).mono ?_
          rintro e w9' ⟨rfl, g9⟩
          have E9 := Lib.hid (E8.out.gr g9)
          clear g9 E8 d0 d1 hen
          go_wp2_with (first
            | ((with_reducible refine wpList_isLoad 45 (.tmp 5) rfl ?_); refine wpList_load_row rfl 45 (.tmp 5) rfl (w.heap.size + 2) rfl 45 _ (0, 0) _ E9.out.bs Try.underlying45 rfl (refSigInfo _ _ _ _ _ _) ?_)
            | ((with_reducible refine wpList_isStore 45 (.tmp 2) (.tmp 99) rfl ?_); refine wpList_store_blk rfl 45 (.tmp 2) (.tmp 99) rfl w.heap.size sigZ2 rfl rfl 45 sigZ2 E9.out.br (refSigInfo _ _ _ _ _ _) rfl (by simp [Value.oneCell']) ?_; intro w9 n9 k9 z9; have x0 := n9.cell 0; have x1 := n9.cell 1; have x2 := n9.cell 2; have x3 := n9.cell 3; have x4 := n9.cell 4; have x5 := n9.cell 5; have B9 := Lib.hid (below_kb2 E9.out.bel k9 (Nat.le_refl _)); have O9 := Lib.hid (os_kb E9.out.os k9 (by omega)); clear n9 k9 z9))
          exact bodyPost_ret (v := .tuple #[.agg sigZ2, .int .i64 ((q : Nat) : Int)]) (by simp [results, Try.results21, go_sem, x0, x1, x2, x3, x4, x5]) rfl ⟨none, 0, rfl, OS.nil_ _ _ _, B9.out⟩
end Sg
end Go.Proofs.Ytcibngbgcnnjnaa
namespace Go.Proofs.Ytcibngbgcnnjnaa
open Go Go.RowKit W Bl
namespace Sg
theorem gets_bs (l : List UInt8) : (gets l).1.bs.length ≤ 1000000 := by
  unfold gets fin2 fin
  split
  · simp [empty]
  · split
    · rename_i h
      obtain ⟨_, _, h3, _⟩ := right_spec h
      simp only at h3 ⊢
      omega
    · simp [empty]
/-- The value is the signature s. -/
def isSg' (s : Sig) : Ass := fun v w => ∃ A c, v = sigV s A c ∧ SR w w.heap.size A s.bs
theorem isSg_lasts' (s : Sig) : Lasts (isSg' s) := fun _ _ _ hg ⟨A, c, hv, hr⟩ => ⟨A, c, hv, (hr.below hg).more hg.size⟩
theorem isSg_out' {E : TypeId} {s : Sig} {A : Option Addr} {c base : Nat} {w : World} (h : OS E w base (.slice A s.bs.length c) s.bs) : isSg' s (sigV s A c) w := ⟨A, c, rfl, OS.sr h⟩
set_option maxRecDepth 100000 in
set_option maxHeartbeats 8000000 in
theorem blockGets_walk (A : Option Addr) (c : Nat) (l : List UInt8) (w : World) (hc : l.length ≤ c) (hcm : c ≤ maxLen) (hr : RB w w.heap.size A l) :
    Calls Try.prog 5 #[.slice A l.length c] w (Ret (eqv (.bool true)) w) := by
  by_cases h500 : l.length ≤ 500
  · have h500' : ¬ (500 : Int) < (l.length : Int) := by omega
    have hge := Lib.hid (get_any A c l w (by omega) hr)
    have hrg := Lib.hid (fun w => refGet_sig l w (by omega))
    have hbk := Lib.hid (fun h => gets_back (l := l) h)
    have hbs := Lib.hid (gets_bs l)
    have hr' := Lib.hid hr
    clear hr
    generalize gets l = R at *
    obtain ⟨s, q⟩ := R
    simp only at hbk hbs
    have hfr := Lib.hid (fun A c w hl => from_any s A c w hl hbs.out)
    have hsm := Lib.hid (fun A B c d w hl hm => refSame_any s s A B c d w hl hm hbs.out)
    go_enter Try.func5, Try.ntmps5
    go_wp2_with fail
    go_at_call 20
    refine hge.out.mono ?_
    rintro e w1 ⟨A1, c1, rfl, o1, g1⟩
    have gg1 := Gr.alloc g1 (.cells (sigC s.size (.slice A1 s.bs.length c1) s.tail s.last) 35)
    have n1 := Lib.hid (Blk.new w1 35 (sigC s.size (.slice A1 s.bs.length c1) s.tail s.last))
    have r1 := Lib.hid (((OS.sr o1).below ((Gr.refl w1).alloc (.cells (sigC s.size (.slice A1 s.bs.length c1) s.tail s.last) 35))).more (by rw [World.size_alloc]; omega) : SR (w1.alloc (.cells (sigC s.size (.slice A1 s.bs.length c1) s.tail s.last) 35)) (w1.alloc (.cells (sigC s.size (.slice A1 s.bs.length c1) s.tail s.last) 35)).heap.size A1 s.bs)
    have rA := Lib.hid ((hr'.out.below gg1).more (Below.size gg1))
    have G1 := Lib.hid gg1
    clear g1 gg1 o1 hge
    go_wp2_with (first
      | (refine wpList_bytes_string rfl (.tmp 17) 26 9 5 rfl Try.underlying26 Bl.byteType.1 Try.underlying9 _ _ _ _ l rfl rfl rA.out ?_))
    go_at_call 21
    refine (hrg.out _).mono ?_
    rintro e w2 ⟨A2, c2, rfl, o2, g2⟩
    have gg2 := Gr.alloc g2 (.cells (sigC s.size (.slice A2 s.bs.length c2) s.tail s.last) 45)
    have n2 := Lib.hid (blk_more n1.out gg2)
    have m2 := Lib.hid (Blk.new w2 45 (sigC s.size (.slice A2 s.bs.length c2) s.tail s.last))
    have r2 := Lib.hid ((r1.out.below gg2).more (Below.size gg2))
    have p2 := Lib.hid (((OS.sr o2).below ((Gr.refl w2).alloc (.cells (sigC s.size (.slice A2 s.bs.length c2) s.tail s.last) 45))).more (by rw [World.size_alloc]; omega) : SR (w2.alloc (.cells (sigC s.size (.slice A2 s.bs.length c2) s.tail s.last) 45)) (w2.alloc (.cells (sigC s.size (.slice A2 s.bs.length c2) s.tail s.last) 45)).heap.size A2 s.bs)
    have rD := Lib.hid ((rA.out.below gg2).more (Below.size gg2))
    have G4 := Lib.hid (Gr.trans G1.out gg2)
    clear n1 r1 rA G1 g2 gg2 o2 hrg
    by_cases hq : q = 0
    · have hp := hbk.out hq
      subst hq
      clear hbk
      have hpt := Lib.hid (fun A c w hr => put_any s A c w hr)
      rw [hp] at hpt
      clear hp
      go_wp2
      refine region_grow (by kernel_rfl) (by kernel_rfl) ?_
      refine GW.call0 (eqv (.bool true)) rfl trivial rfl Try.func9 (by kernel_rfl) (by kernel_rfl) (eqv_lasts _)  (fun w' hg => ?_) ?_
      · refine (awake_any w').mono ?_
        rintro e w9 ⟨rfl, hg9⟩
        exact ⟨_, rfl, rfl, hg9⟩
      refine GW.mv rfl trivial (.inl rfl) (kn (t := 22) (j := 0) (by kernel_rfl)) (eqv_lasts _) ?_
      refine GW.p1 (.agg #[.int .i64 s.size, .slice A1 s.bs.length c1, .int .i64 s.tail, .int .u32 (n32 s.last.1), .int .u64 (n64 s.last.2.1), .int .u64 (n64 s.last.2.2)]) rfl ⟨23, by kernel_rfl, by kernel_rfl, fun _ _ h => h⟩ (kn0 (t := 3) (c := .pointer (some ⟨w1.heap.size, 0, none⟩)) (by kernel_rfl) rfl) (fun ρ w' hρ hg => by simp [execOp, hρ, go_sem, (hg.cell (p := ⟨w1.heap.size, 0, none⟩) n2.out.lt).trans (n2.out.cell 0), (hg.cell (p := ⟨w1.heap.size, 1, none⟩) n2.out.lt).trans (n2.out.cell 1), (hg.cell (p := ⟨w1.heap.size, 2, none⟩) n2.out.lt).trans (n2.out.cell 2), (hg.cell (p := ⟨w1.heap.size, 3, none⟩) n2.out.lt).trans (n2.out.cell 3), (hg.cell (p := ⟨w1.heap.size, 4, none⟩) n2.out.lt).trans (n2.out.cell 4), (hg.cell (p := ⟨w1.heap.size, 5, none⟩) n2.out.lt).trans (n2.out.cell 5)]) ?_
      refine GW.call1 (isSg' s) rfl ⟨23, by kernel_rfl, by kernel_rfl, fun _ _ h => h⟩ rfl Try.func15 (by kernel_rfl) (by kernel_rfl) (isSg_lasts' _) (kn (t := 24) (j := 2) (by kernel_rfl)) (fun v w' hg hv => ?_) ?_
      · obtain rfl : v = _ := hv
        refine (hfr.out A1 c1 w' ((r2.out.below hg).more (Below.size hg))).mono ?_
        rintro e w9 ⟨A9, c9, rfl, o9, hg9⟩
        exact ⟨_, rfl, isSg_out' o9, hg9⟩
      refine GW.p1 (.agg #[.int .i64 s.size, .slice A2 s.bs.length c2, .int .i64 s.tail, .int .u32 (n32 s.last.1), .int .u64 (n64 s.last.2.1), .int .u64 (n64 s.last.2.2)]) rfl ⟨23, by kernel_rfl, by kernel_rfl, fun _ _ h => h⟩ (kn0 (t := 5) (c := .pointer (some ⟨w2.heap.size, 0, none⟩)) (by kernel_rfl) rfl) (fun ρ w' hρ hg => by simp [execOp, hρ, go_sem, (hg.cell (p := ⟨w2.heap.size, 0, none⟩) m2.out.lt).trans (m2.out.cell 0), (hg.cell (p := ⟨w2.heap.size, 1, none⟩) m2.out.lt).trans (m2.out.cell 1), (hg.cell (p := ⟨w2.heap.size, 2, none⟩) m2.out.lt).trans (m2.out.cell 2), (hg.cell (p := ⟨w2.heap.size, 3, none⟩) m2.out.lt).trans (m2.out.cell 3), (hg.cell (p := ⟨w2.heap.size, 4, none⟩) m2.out.lt).trans (m2.out.cell 4), (hg.cell (p := ⟨w2.heap.size, 5, none⟩) m2.out.lt).trans (m2.out.cell 5)]) ?_
      refine GW.call2 (eqv (.bool true)) rfl ⟨23, by kernel_rfl, by kernel_rfl, fun _ _ h => h⟩ rfl Try.func14 (by kernel_rfl) (by kernel_rfl) (eqv_lasts _) (kn (t := 25) (j := 3) (by kernel_rfl)) (kn (t := 26) (j := 4) (by kernel_rfl)) (fun v u w' hg hv hu => ?_) ?_
      · obtain ⟨A8, c8, rfl, q8⟩ := hv
        obtain rfl : u = _ := hu
        refine (hsm.out A8 A2 c8 c2 w' q8 ((p2.out.below hg).more (Below.size hg))).mono ?_
        rintro e w9 ⟨rfl, hg9⟩
        exact ⟨_, rfl, rfl, hg9⟩
      refine GW.pick (b := true) rfl trivial rfl (kn (t := 23) (j := 1) (by kernel_rfl)) (kn (t := 27) (j := 5) (by kernel_rfl)) (eqv_lasts _) ?_
      refine GW.mv rfl trivial (.inl rfl) (kn (t := 28) (j := 6) (by kernel_rfl)) (eqv_lasts _) ?_
      refine GW.mv rfl ⟨29, by kernel_rfl, by kernel_rfl, fun _ _ h => h⟩ (.inl rfl) (kn0 (t := 4) (c := .int .i64 ((0 : Nat) : Int)) (by kernel_rfl) rfl) (eqv_lasts _) ?_
      refine GW.mv rfl ⟨29, by kernel_rfl, by kernel_rfl, fun _ _ h => h⟩ (.inl rfl) (kn0 (t := 6) (c := .int .i64 ((0 : Nat) : Int)) (by kernel_rfl) rfl) (eqv_lasts _) ?_
      refine GW.bin (.bool true) rfl ⟨29, by kernel_rfl, by kernel_rfl, fun _ _ h => h⟩ rfl (kn (t := 30) (j := 8) (by kernel_rfl)) (kn (t := 31) (j := 9) (by kernel_rfl)) (fun w' => by simp [go_sem]) ?_
      refine GW.pick (b := true) rfl trivial rfl (kn (t := 29) (j := 7) (by kernel_rfl)) (kn (t := 32) (j := 10) (by kernel_rfl)) (eqv_lasts _) ?_
      refine GW.mv rfl trivial (.inl rfl) (kn (t := 33) (j := 11) (by kernel_rfl)) (eqv_lasts _) ?_
      refine GW.mv rfl ⟨34, by kernel_rfl, by kernel_rfl, fun _ _ h => h⟩ (.inl rfl) (kn0 (t := 6) (c := .int .i64 ((0 : Nat) : Int)) (by kernel_rfl) rfl) (eqv_lasts _) ?_
      refine GW.bin (.bool false) rfl ⟨34, by kernel_rfl, by kernel_rfl, fun _ _ h => h⟩ rfl (kn (t := 35) (j := 13) (by kernel_rfl)) knc (fun w' => by simp [go_sem]) ?_
      refine GW.mv rfl ⟨34, by kernel_rfl, by kernel_rfl, fun _ _ h => h⟩ (.inl rfl) (kn (t := 36) (j := 14) (by kernel_rfl)) (eqv_lasts _) ?_
      refine GW.p1 (.agg #[.int .i64 s.size, .slice A1 s.bs.length c1, .int .i64 s.tail, .int .u32 (n32 s.last.1), .int .u64 (n64 s.last.2.1), .int .u64 (n64 s.last.2.2)]) rfl ⟨37, by kernel_rfl, by kernel_rfl, fun _ _ h => h⟩ (kn0 (t := 3) (c := .pointer (some ⟨w1.heap.size, 0, none⟩)) (by kernel_rfl) rfl) (fun ρ w' hρ hg => by simp [execOp, hρ, go_sem, (hg.cell (p := ⟨w1.heap.size, 0, none⟩) n2.out.lt).trans (n2.out.cell 0), (hg.cell (p := ⟨w1.heap.size, 1, none⟩) n2.out.lt).trans (n2.out.cell 1), (hg.cell (p := ⟨w1.heap.size, 2, none⟩) n2.out.lt).trans (n2.out.cell 2), (hg.cell (p := ⟨w1.heap.size, 3, none⟩) n2.out.lt).trans (n2.out.cell 3), (hg.cell (p := ⟨w1.heap.size, 4, none⟩) n2.out.lt).trans (n2.out.cell 4), (hg.cell (p := ⟨w1.heap.size, 5, none⟩) n2.out.lt).trans (n2.out.cell 5)]) ?_
      refine GW.call1 (isB l) rfl ⟨37, by kernel_rfl, by kernel_rfl, fun _ _ h => h⟩ rfl Try.func22 (by kernel_rfl) (by kernel_rfl) (isB_lasts _) (kn (t := 38) (j := 16) (by kernel_rfl)) (fun v w' hg hv => ?_) ?_
      · obtain rfl : v = _ := hv
        refine (hpt.out A1 c1 w' ((r2.out.below hg).more (Below.size hg))).mono ?_
        rintro e w9 ⟨v9, rfl, i9, hg9⟩
        exact ⟨_, rfl, i9, hg9⟩
      refine GW.bs (l) rfl ⟨37, by kernel_rfl, by kernel_rfl, fun _ _ h => h⟩ rfl Try.underlying26 byteType.1 Try.underlying9 (kn (t := 39) (j := 17) (by kernel_rfl)) ?_
      refine GW.mv rfl ⟨37, by kernel_rfl, by kernel_rfl, fun _ _ h => h⟩ (.inl rfl) (kn0' (t := 0) (c := .slice A l.length c) (by kernel_rfl) rfl (isB_lasts _) (⟨A, c, rfl, hc, hcm, rD.out⟩)) (isB_lasts _) ?_
      refine GW.bs (l) rfl ⟨37, by kernel_rfl, by kernel_rfl, fun _ _ h => h⟩ rfl Try.underlying26 byteType.1 Try.underlying9 (kn (t := 41) (j := 19) (by kernel_rfl)) ?_
      refine GW.bin (.bool true) rfl ⟨37, by kernel_rfl, by kernel_rfl, fun _ _ h => h⟩ rfl (kn (t := 40) (j := 18) (by kernel_rfl)) (kn (t := 42) (j := 20) (by kernel_rfl)) (fun w' => by simp [go_sem]) ?_
      refine GW.pick (b := false) rfl ⟨34, by kernel_rfl, by kernel_rfl, fun _ _ h => h⟩ rfl (kn (t := 37) (j := 15) (by kernel_rfl)) (kn (t := 43) (j := 21) (by kernel_rfl)) (eqv_lasts _) ?_
      refine GW.pick (b := true) rfl trivial rfl (kn (t := 34) (j := 12) (by kernel_rfl)) (kn (t := 44) (j := 22) (by kernel_rfl)) (eqv_lasts _) ?_
      refine GW.mv rfl trivial (.inr rfl) (kn (t := 45) (j := 23) (by kernel_rfl)) (eqv_lasts _) ?_
      refine GW.done (by simp) (by kernel_rfl) (fun w' hg_ => ?_)
      intro v0 _ v1 _ v2 _ v3 _ v4 _ v5 _ v6 _ v7 _ v8 _ v9 _ v10 _ v11 _ v12 _ v13 _ v14 _ v15 _ v16 _ v17 _ v18 _ v19 _ v20 _ v21 _ v22 _ v23 _ v24 h24
      obtain rfl : v24 = (.bool true) := h24
      simp only [GFin, Act.put, List.setIfInBounds_toArray, List.set_cons_succ, List.set_cons_zero]
      go_wp2
      go_ret
      exact ⟨_, rfl, rfl, Gr.trans G4.out hg_⟩
    · clear hbk
      have hqn : ¬ (q : Int) = 0 := by omega
      have hqb : ((q : Int) == 0) = false := by simp [hq]
      go_wp2
      refine region_grow (by kernel_rfl) (by kernel_rfl) ?_
      refine GW.call0 (eqv (.bool true)) rfl trivial rfl Try.func9 (by kernel_rfl) (by kernel_rfl) (eqv_lasts _)  (fun w' hg => ?_) ?_
      · refine (awake_any w').mono ?_
        rintro e w9 ⟨rfl, hg9⟩
        exact ⟨_, rfl, rfl, hg9⟩
      refine GW.mv rfl trivial (.inl rfl) (kn (t := 22) (j := 0) (by kernel_rfl)) (eqv_lasts _) ?_
      refine GW.p1 (.agg #[.int .i64 s.size, .slice A1 s.bs.length c1, .int .i64 s.tail, .int .u32 (n32 s.last.1), .int .u64 (n64 s.last.2.1), .int .u64 (n64 s.last.2.2)]) rfl ⟨23, by kernel_rfl, by kernel_rfl, fun _ _ h => h⟩ (kn0 (t := 3) (c := .pointer (some ⟨w1.heap.size, 0, none⟩)) (by kernel_rfl) rfl) (fun ρ w' hρ hg => by simp [execOp, hρ, go_sem, (hg.cell (p := ⟨w1.heap.size, 0, none⟩) n2.out.lt).trans (n2.out.cell 0), (hg.cell (p := ⟨w1.heap.size, 1, none⟩) n2.out.lt).trans (n2.out.cell 1), (hg.cell (p := ⟨w1.heap.size, 2, none⟩) n2.out.lt).trans (n2.out.cell 2), (hg.cell (p := ⟨w1.heap.size, 3, none⟩) n2.out.lt).trans (n2.out.cell 3), (hg.cell (p := ⟨w1.heap.size, 4, none⟩) n2.out.lt).trans (n2.out.cell 4), (hg.cell (p := ⟨w1.heap.size, 5, none⟩) n2.out.lt).trans (n2.out.cell 5)]) ?_
      refine GW.call1 (isSg' s) rfl ⟨23, by kernel_rfl, by kernel_rfl, fun _ _ h => h⟩ rfl Try.func15 (by kernel_rfl) (by kernel_rfl) (isSg_lasts' _) (kn (t := 24) (j := 2) (by kernel_rfl)) (fun v w' hg hv => ?_) ?_
      · obtain rfl : v = _ := hv
        refine (hfr.out A1 c1 w' ((r2.out.below hg).more (Below.size hg))).mono ?_
        rintro e w9 ⟨A9, c9, rfl, o9, hg9⟩
        exact ⟨_, rfl, isSg_out' o9, hg9⟩
      refine GW.p1 (.agg #[.int .i64 s.size, .slice A2 s.bs.length c2, .int .i64 s.tail, .int .u32 (n32 s.last.1), .int .u64 (n64 s.last.2.1), .int .u64 (n64 s.last.2.2)]) rfl ⟨23, by kernel_rfl, by kernel_rfl, fun _ _ h => h⟩ (kn0 (t := 5) (c := .pointer (some ⟨w2.heap.size, 0, none⟩)) (by kernel_rfl) rfl) (fun ρ w' hρ hg => by simp [execOp, hρ, go_sem, (hg.cell (p := ⟨w2.heap.size, 0, none⟩) m2.out.lt).trans (m2.out.cell 0), (hg.cell (p := ⟨w2.heap.size, 1, none⟩) m2.out.lt).trans (m2.out.cell 1), (hg.cell (p := ⟨w2.heap.size, 2, none⟩) m2.out.lt).trans (m2.out.cell 2), (hg.cell (p := ⟨w2.heap.size, 3, none⟩) m2.out.lt).trans (m2.out.cell 3), (hg.cell (p := ⟨w2.heap.size, 4, none⟩) m2.out.lt).trans (m2.out.cell 4), (hg.cell (p := ⟨w2.heap.size, 5, none⟩) m2.out.lt).trans (m2.out.cell 5)]) ?_
      refine GW.call2 (eqv (.bool true)) rfl ⟨23, by kernel_rfl, by kernel_rfl, fun _ _ h => h⟩ rfl Try.func14 (by kernel_rfl) (by kernel_rfl) (eqv_lasts _) (kn (t := 25) (j := 3) (by kernel_rfl)) (kn (t := 26) (j := 4) (by kernel_rfl)) (fun v u w' hg hv hu => ?_) ?_
      · obtain ⟨A8, c8, rfl, q8⟩ := hv
        obtain rfl : u = _ := hu
        refine (hsm.out A8 A2 c8 c2 w' q8 ((p2.out.below hg).more (Below.size hg))).mono ?_
        rintro e w9 ⟨rfl, hg9⟩
        exact ⟨_, rfl, rfl, hg9⟩
      refine GW.pick (b := true) rfl trivial rfl (kn (t := 23) (j := 1) (by kernel_rfl)) (kn (t := 27) (j := 5) (by kernel_rfl)) (eqv_lasts _) ?_
      refine GW.mv rfl trivial (.inl rfl) (kn (t := 28) (j := 6) (by kernel_rfl)) (eqv_lasts _) ?_
      refine GW.mv rfl ⟨29, by kernel_rfl, by kernel_rfl, fun _ _ h => h⟩ (.inl rfl) (kn0 (t := 4) (c := .int .i64 (q : Int)) (by kernel_rfl) rfl) (eqv_lasts _) ?_
      refine GW.mv rfl ⟨29, by kernel_rfl, by kernel_rfl, fun _ _ h => h⟩ (.inl rfl) (kn0 (t := 6) (c := .int .i64 (q : Int)) (by kernel_rfl) rfl) (eqv_lasts _) ?_
      refine GW.bin (.bool true) rfl ⟨29, by kernel_rfl, by kernel_rfl, fun _ _ h => h⟩ rfl (kn (t := 30) (j := 8) (by kernel_rfl)) (kn (t := 31) (j := 9) (by kernel_rfl)) (fun w' => by simp [go_sem]) ?_
      refine GW.pick (b := true) rfl trivial rfl (kn (t := 29) (j := 7) (by kernel_rfl)) (kn (t := 32) (j := 10) (by kernel_rfl)) (eqv_lasts _) ?_
      refine GW.mv rfl trivial (.inl rfl) (kn (t := 33) (j := 11) (by kernel_rfl)) (eqv_lasts _) ?_
      refine GW.mv rfl ⟨34, by kernel_rfl, by kernel_rfl, fun _ _ h => h⟩ (.inl rfl) (kn0 (t := 6) (c := .int .i64 (q : Int)) (by kernel_rfl) rfl) (eqv_lasts _) ?_
      refine GW.bin (.bool true) rfl ⟨34, by kernel_rfl, by kernel_rfl, fun _ _ h => h⟩ rfl (kn (t := 35) (j := 13) (by kernel_rfl)) knc (fun w' => by simp [go_sem, hqn, hqb, hq]) ?_
      refine GW.mv rfl ⟨34, by kernel_rfl, by kernel_rfl, fun _ _ h => h⟩ (.inl rfl) (kn (t := 36) (j := 14) (by kernel_rfl)) (eqv_lasts _) ?_
      refine GW.skip rfl rfl (d := 37) (by kernel_rfl) (by kernel_rfl) (fun _ _ h => .inl h) ?_
      refine GW.skip rfl rfl (d := 37) (by kernel_rfl) (by kernel_rfl) (fun _ _ h => .inl h) ?_
      refine GW.skip rfl rfl (d := 37) (by kernel_rfl) (by kernel_rfl) (fun _ _ h => .inl h) ?_
      refine GW.skip rfl rfl (d := 37) (by kernel_rfl) (by kernel_rfl) (fun _ _ h => .inl h) ?_
      refine GW.skip rfl rfl (d := 37) (by kernel_rfl) (by kernel_rfl) (fun _ _ h => .inl h) ?_
      refine GW.skip rfl rfl (d := 37) (by kernel_rfl) (by kernel_rfl) (fun _ _ h => .inl h) ?_
      refine GW.pick (b := true) rfl ⟨34, by kernel_rfl, by kernel_rfl, fun _ _ h => h⟩ rfl (kn (t := 37) (j := 15) (by kernel_rfl)) (knc) (eqv_lasts _) ?_
      refine GW.pick (b := true) rfl trivial rfl (kn (t := 34) (j := 12) (by kernel_rfl)) (kn (t := 44) (j := 22) (by kernel_rfl)) (eqv_lasts _) ?_
      refine GW.mv rfl trivial (.inr rfl) (kn (t := 45) (j := 23) (by kernel_rfl)) (eqv_lasts _) ?_
      refine GW.done (by simp) (by kernel_rfl) (fun w' hg_ => ?_)
      intro v0 _ v1 _ v2 _ v3 _ v4 _ v5 _ v6 _ v7 _ v8 _ v9 _ v10 _ v11 _ v12 _ v13 _ v14 _ v15 _ v16 _ v17 _ v18 _ v19 _ v20 _ v21 _ v22 _ v23 _ v24 h24
      obtain rfl : v24 = (Value.bool true) := h24
      simp only [GFin, Act.put, List.setIfInBounds_toArray, List.set_cons_succ, List.set_cons_zero]
      go_wp2
      go_ret
      exact ⟨_, rfl, rfl, Gr.trans G4.out hg_⟩
  · have h500' : (500 : Int) < (l.length : Int) := by omega
    clear hr
    go_enter Try.func5, Try.ntmps5
    go_wp2_with fail
    go_at_call 9
    refine (awake_any _).mono ?_
    rintro e w2 ⟨rfl, g2⟩
    go_wp2
    go_ret
    exact ⟨_, rfl, rfl, g2⟩
end Sg
end Go.Proofs.Ytcibngbgcnnjnaa
namespace Go.Proofs.Ytcibngbgcnnjnaa
open Go Go.RowKit
section
variable {P : Program} {ops : Array Oper} {Q : Exit → Act → World → Prop} {a₀ : Act} {w₀ : World} {Φ : Nat → Ass}
/-- An operation that makes a block of its own. -/
structure MakesNew (P : Program) (ops : Array Oper) (Φ : Nat → Ass) (w₀ : World) (m p d : Nat) : Prop where
  lt : p < m
  op : ∃ o T cs, ops[p]? = some o ∧ o.dst = some d ∧ o.guard = none ∧ o.op = .alloc T ∧ (∀ w, (Instr.alloc T true (.tuple #[])).run P w = .ok (.pointer (some ⟨w.heap.size, 0, none⟩)) (w.alloc (.cells cs T))) ∧ Φ p = isNew w₀.heap.size T cs
theorem MakesNew.mk' {m p d : Nat} (o : Oper) (T : TypeId) (cs : Array Value) (h : p < m) (h1 : ops[p]? = some o) (h2 : o.dst = some d) (h3 : o.guard = none) (h4 : o.op = .alloc T)
    (h5 : ∀ w, (Instr.alloc T true (.tuple #[])).run P w = .ok (.pointer (some ⟨w.heap.size, 0, none⟩)) (w.alloc (.cells cs T))) (h6 : Φ p = isNew w₀.heap.size T cs) : MakesNew P ops Φ w₀ m p d := ⟨h, o, T, cs, h1, h2, h3, h4, h5, h6⟩
theorem new_step {m p q dp dq : Nat} (hk : growOk ops a₀.tmps.size = true) (hl : ∀ j, Lasts (Φ j)) (hp : MakesNew P ops Φ w₀ m p dp) (hq : MakesNew P ops Φ w₀ m q dq) (hpq : p ≠ q)
    {listed : Array Bool} {a : Act} {w : World} (I : GInv ops a₀ w₀ Φ listed a w) (hr : p ∈ Region.ready .any ops listed) {K : Act → World → Prop}
    (hK : ∀ a' w', GInv ops a₀ w₀ Φ (listed.setIfInBounds p true) a' w' → ((listed.setIfInBounds p true).getD q false = true → slotOf a' dp ≠ slotOf a' dq) → K a' w') : wpOp P ops Q p K a w := by
  obtain ⟨_, o, T, cs, ho, hd, hg, hop, hrun, hΦ⟩ := hp
  obtain ⟨_, oq, Tq, cq, hoq, hdq, _, _, _, hΦq⟩ := hq
  have hds : dp < a.tmps.size := by rw [I.size]; exact ((growOk_spec hk ho).1 dp hd).1
  have hne : dp ≠ dq := fun e => by
    subst e
    exact hpq (dst_unique hk ho hoq hd hdq)
  unfold wpOp
  simp only [ho]
  rw [if_pos (by simp [Region.wanted, hg])]
  refine .inl ?_
  have hx : (execOp a.eval o).run P w = .ok (.value (.pointer (some ⟨w.heap.size, 0, none⟩))) (w.alloc (.cells cs T)) := by
    obtain ⟨dst, op, ty, pos, after, guard⟩ := o
    simp only at hop
    subst hop
    show ((Instr.alloc T true (.tuple #[]) >>= fun v => pure (Next.value v)) : Sem Next).run P w = _
    rw [Sem.run_bind, hrun]
    rfl
  unfold Oper.wp
  rw [hx, Oper.upon_value]
  have hgr : Gr w (w.alloc (.cells cs T)) := (Gr.refl w).alloc _
  refine hK _ _ (ginv_step hk I hr ho hl hgr (by rw [hΦ]; exact ⟨_, rfl, I.gr.size, Blk.new w T cs⟩)) fun hlq => ?_
  rw [hd, slotOf_put_same hds, slotOf_put_ne hne]
  rw [getD_set_ne false hpq] at hlq
  have := I.done q oq dq hoq hlq hdq
  rw [hΦq] at this
  obtain ⟨g, hv, _, hb⟩ := this
  rw [hv]
  intro e
  have hlt := hb.lt
  injection e with e
  injection e with e
  injection e with e1
  omega
theorem wpAny_growF {m p q dp dq : Nat} (hm : m ≤ ops.size) (hk : growOk ops a₀.tmps.size = true) (hst : ∀ i o, i < m → ops[i]? = some o → StepOK P ops Q a₀ w₀ Φ i o) (hl : ∀ j, Lasts (Φ j))
    (hds : ∀ i o, i < m → ops[i]? = some o → o.dst ≠ none) (htail : tailT ops m = true) (hp : MakesNew P ops Φ w₀ m p dp) (hq : MakesNew P ops Φ w₀ m q dq) (hpq : p ≠ q)
    (hfin : ∀ w, Gr w₀ w → GFin Φ (fun a w => slotOf a dp ≠ slotOf a dq → wpList P ops Q (ops.toList.drop m) a w) (ops.toList.take m) 0 a₀ w) :
    ∀ (fuel : Nat) (listed : Array Bool) (a : Act) (w : World), unlisted listed ≤ fuel → GInv ops a₀ w₀ Φ listed a w → (∀ i, m ≤ i → listed.getD i false ≠ true) →
      (listed.getD p false = true → listed.getD q false = true → slotOf a dp ≠ slotOf a dq) → wpAny P .any ops Q fuel listed a w := by
  intro fuel
  obtain ⟨ht1, ht2⟩ := tailT_spec htail
  obtain ⟨op, hop, hopd⟩ : ∃ o, ops[p]? = some o ∧ o.dst = some dp := by obtain ⟨_, o, T, cs, ho, hd, _⟩ := hp; exact ⟨o, ho, hd⟩
  obtain ⟨oq, hoq, hoqd⟩ : ∃ o, ops[q]? = some o ∧ o.dst = some dq := by obtain ⟨_, o, T, cs, ho, hd, _⟩ := hq; exact ⟨o, ho, hd⟩
  have fin : ∀ (fuel : Nat) (listed : Array Bool) (a : Act) (w : World), unlisted listed ≤ fuel → GInv ops a₀ w₀ Φ listed a w → (∀ i, m ≤ i → listed.getD i false ≠ true) → (∀ i, i < m → listed.getD i false = true) → slotOf a dp ≠ slotOf a dq → wpAny P .any ops Q fuel listed a w := fun fuel listed a w hu I hno hall hne =>
    tail_any hk ht1 fuel m listed a w (Nat.le_refl _) hm I.lsize (fun i hi => by
        rcases Nat.lt_or_ge i m with h | h
        · exact ⟨fun _ => h, fun _ => hall i h⟩
        · exact ⟨fun h' => absurd h' (hno i h), fun h' => absurd h' (by omega)⟩) hu
      (gfin_use hm hk (R := fun a w => slotOf a dp ≠ slotOf a dq → wpList P ops Q (ops.toList.drop m) a w) I hall hno hds (ops.toList.take m) 0 a₀ rfl I.defers.symm I.size.symm (by rintro t ⟨j, o, hj, _⟩; omega) (fun _ _ => rfl) (hfin w I.gr) hne)
  induction fuel with
  | zero =>
    intro listed a w hu I hno hJ
    have hall : ∀ i, i < m → listed.getD i false = true := fun i hi => by
      cases h : listed.getD i false with
      | true => rfl
      | false =>
        have := unlisted_set (listed := listed) (i := i) (by rw [getD_same (by rw [I.lsize]; omega)]; exact h)
        omega
    exact fin 0 listed a w hu I hno hall (hJ (hall p hp.lt) (hall q hq.lt))
  | succ fuel ih =>
    intro listed a w hu I hno hJ
    by_cases hall : ∀ i, i < m → listed.getD i false = true
    · exact fin _ listed a w hu I hno hall (hJ (hall p hp.lt) (hall q hq.lt))
    · refine ⟨fun hr => absurd (fun i hi => all_listed hk I.lsize hr i (by omega)) hall, fun i hi => ?_⟩
      obtain ⟨hun, o, ho, hedge⟩ := mem_ready.1 hi
      have him : i < m := by
        rcases Nat.lt_or_ge i m with h | h
        · exact h
        · exfalso
          rcases Nat.lt_or_ge m i with h2 | h2
          · obtain ⟨e, he, hb, hej⟩ := ht1 i o h2 ho
            exact hno e.on (by omega) (hedge e he hb)
          · have him' : i = m := by omega
            subst him'
            exact hall (ht2 o listed ho I.closed hedge)
      have hcnt := unlisted_set hun
      have hno' : ∀ j, m ≤ j → (listed.setIfInBounds i true).getD j false ≠ true := fun j hj => by
        rw [getD_set_ne false (by omega)]; exact hno j hj
      by_cases hip : i = p
      · subst hip
        exact new_step hk hl hp hq hpq I hi fun a' w' I' hne => ih _ _ _ (by omega) I' hno' fun _ h => hne h
      · by_cases hiq : i = q
        · subst hiq
          exact new_step hk hl hq hp (Ne.symm hpq) I hi fun a' w' I' hne => ih _ _ _ (by omega) I' hno' fun h _ => Ne.symm (hne h)
        · refine (hst i o him ho).2 a w _ I.gr (knownAs_of_inv hk I hi) fun v w' hg hv => ih _ _ _ (by omega) (ginv_step hk I hi ho hl hg hv) hno' fun h1 h2 => ?_
          rw [getD_set_ne false hip] at h1
          rw [getD_set_ne false hiq] at h2
          cases hd : o.dst with
          | none => exact hJ h1 h2
          | some d =>
            have e1 : d ≠ dp := fun e => by
              subst e
              exact hip (dst_unique hk ho hop hd hopd)
            have e2 : d ≠ dq := fun e => by
              subst e
              exact hiq (dst_unique hk ho hoq hd hoqd)
            rw [slotOf_put_ne e1, slotOf_put_ne e2]
            exact hJ h1 h2
/-- As GW.tailT, of two new blocks: they are two. -/
theorem GW.tailF {m : Nat} (p q dp dq : Nat) (hm : m ≤ ops.size) (hd : dstB ops m = true) (ht : Go.Proofs.Ytcibngbgcnnjnaa.tailT ops m = true) (hp : MakesNew P ops Φ w₀ m p dp) (hq : MakesNew P ops Φ w₀ m q dq) (hpq : p ≠ q)
    (hfin : ∀ w, Gr w₀ w → GFin Φ (fun a w => slotOf a dp ≠ slotOf a dq → wpList P ops Q (ops.toList.drop m) a w) (ops.toList.take m) 0 a₀ w) : GW P ops Q a₀ w₀ Φ m :=
  fun hk hl hst fuel listed a w hu I hno => wpAny_growF hm hk (fun i o hi ho => hst i o hi ho) hl (dstB_spec hd) ht hp hq hpq hfin fuel listed a w hu (I Φ hl) (fun i _ => hno i) (fun h => absurd h (hno p))
end
end Go.Proofs.Ytcibngbgcnnjnaa
namespace Go.Proofs.Ytcibngbgcnnjnaa
open Go Go.RowKit W Bl
namespace Sg
set_option maxRecDepth 100000 in
set_option maxHeartbeats 8000000 in
theorem same_any (s t : Sig) (A B : Option Addr) (c d : Nat) (w : World) (hl : SR w w.heap.size A s.bs) (hm : SR w w.heap.size B t.bs) (hk40 : s.bs.length ≤ 1000000) :
    Calls Try.prog 26 #[sigV s A c, sigV t B d] w fun e w' => e = .returned (.bool (decide (s = t))) ∧ Gr w w' := by
  obtain ⟨z, l, t1, x⟩ := s
  obtain ⟨z', m, t1', x'⟩ := t
  simp only at hl hm hk40
  obtain ⟨q, hq⟩ : ∃ q, decide ((⟨z, l, t1, x⟩ : Sig) = ⟨z', m, t1', x'⟩) = q := ⟨_, rfl⟩
  rw [hq]
  have gg := ((Gr.refl w).alloc (.cells (sigC z (.slice A l.length c) t1 x) 35)).alloc (.cells (sigC z' (.slice B m.length d) t1' x') 35)
  have hcon := Lib.hid (equal_any A c l B d m _ ((hl.below gg).more (Below.size gg)) ((hm.below gg).more (Below.size gg)) hk40)
  have g0 := Lib.hid gg
  clear hl hm gg
  obtain ⟨xa, xb, xc⟩ := x
  obtain ⟨ya, yb, yc⟩ := x'
  show Calls Try.prog 26 #[.agg (sigC z (.slice A l.length c) t1 (xa, xb, xc)), .agg (sigC z' (.slice B m.length d) t1' (ya, yb, yc))] w _
  by_cases h0 : z = z'
  · obtain rfl := h0
    by_cases h1 : t1 = t1'
    · obtain rfl := h1
      by_cases h2 : xa = ya
      · obtain rfl := h2
        by_cases h3 : xb = yb
        · obtain rfl := h3
          by_cases h4 : xc = yc
          · obtain rfl := h4
            rw [sig_eq] at hq
            rw [hq] at hcon
            go_enter Try.func26, Try.ntmps26
            go_wp2_with fail
            go_at_call 47
            refine hcon.out.mono ?_
            rintro e w1 ⟨rfl, g1⟩
            have G1 := Lib.hid (Gr.trans g0.out g1)
            clear hcon g1 g0
            go_wp2
            go_ret
            exact ⟨rfl, G1.out⟩
          · obtain rfl : q = false := by
              rw [← hq, decide_eq_false_iff_not]
              intro e
              simp only [Sig.mk.injEq, Prod.mk.injEq] at e
              simp_all
            clear hq hcon
            have e1 : (xc == yc) = false := by simp [h4]
            go_enter Try.func26, Try.ntmps26
            go_wp2
            go_ret
            exact ⟨rfl, g0.out⟩
        · obtain rfl : q = false := by
            rw [← hq, decide_eq_false_iff_not]
            intro e
            simp only [Sig.mk.injEq, Prod.mk.injEq] at e
            simp_all
          clear hq hcon
          have e1 : (xb == yb) = false := by simp [h3]
          go_enter Try.func26, Try.ntmps26
          go_wp2
          go_ret
          exact ⟨rfl, g0.out⟩
      · obtain rfl : q = false := by
          rw [← hq, decide_eq_false_iff_not]
          intro e
          simp only [Sig.mk.injEq, Prod.mk.injEq] at e
          simp_all
        clear hq hcon
        have e1 : (xa == ya) = false := by simp [h2]
        go_enter Try.func26, Try.ntmps26
        go_wp2
        go_ret
        exact ⟨rfl, g0.out⟩
    · obtain rfl : q = false := by
        rw [← hq, decide_eq_false_iff_not]
        intro e
        simp only [Sig.mk.injEq, Prod.mk.injEq] at e
        simp_all
      clear hq hcon
      have e1 : (t1 == t1') = false := by simp [h1]
      go_enter Try.func26, Try.ntmps26
      go_wp2
      go_ret
      exact ⟨rfl, g0.out⟩
  · obtain rfl : q = false := by
      rw [← hq, decide_eq_false_iff_not]
      intro e
      simp only [Sig.mk.injEq, Prod.mk.injEq] at e
      simp_all
    clear hq hcon
    have e1 : (z == z') = false := by simp [h0]
    go_enter Try.func26, Try.ntmps26
    go_wp2
    go_ret
    exact ⟨rfl, g0.out⟩
/-- The value is the signature s, its blocks an own slice. -/
def isSo (E : TypeId) (base : Nat) (s : Sig) : Ass := fun v w => ∃ A c, v = sigV s A c ∧ OS E w base (.slice A s.bs.length c) s.bs
theorem isSo_lasts (E : TypeId) (base : Nat) (s : Sig) : Lasts (isSo E base s) := fun _ _ _ hg ⟨A, c, hv, hr⟩ => ⟨A, c, hv, OS.below hr hg⟩
theorem os_ne {E T : TypeId} {base b : Nat} {X Y : World} {v : Value} {l : List Sign} {cs : Array Value} (h : OS E X base v l) (hb : Blk X b T cs) (hT : T ≠ E) (k : Kb b X Y) : OS E Y base v l := by
  refine World.ownsRow.kept h k ?_
  rcases h.2 with ⟨hv, _⟩ | ⟨g', cap, cur, hv, hg, hh, _⟩
  · exact .inl (by rw [hv]; rfl)
  · refine .inr fun e => ?_
    rw [hv] at e
    have e : g' = b := Option.some.inj e
    subst e
    have hb' : X.heap[g']? = some (.cells cs T (0, 0)) := hb
    rw [hb'] at hh
    cases hh
    exact hT rfl
theorem run_mul_ok (n : Nat) (z mu : Int) (h : (n : Int) * z = mu) (h1 : 0 ≤ mu) (h2 : mu ≤ 262144) (x y : Operand) (w : World) : (do eqGuard .mul 3 x y (.int .i64 (n : Int)) (.int .i64 z); binOp .mul 3 (.int .i64 (n : Int)) (.int .i64 z) : Sem Value).run Try.prog w = .ok (.int .i64 mu) w := by
  have e1 : IntKind.i64.wrap mu = mu := by rw [IntKind.wrap_i64]; omega
  simp [go_sem, h, e1]
theorem run_add_ok (a b : Int) (h1 : 0 ≤ a + b) (h2 : a + b ≤ 300000) (x y : Operand) (w : World) : (do eqGuard .add 3 x y (.int .i64 a) (.int .i64 b); binOp .add 3 (.int .i64 a) (.int .i64 b) : Sem Value).run Try.prog w = .ok (.int .i64 (a + b)) w := by
  have e1 : IntKind.i64.wrap (a + b) = a + b := by rw [IntKind.wrap_i64]; omega
  simp [go_sem, e1]
theorem putB_le (s : Sig) : (putB s).length ≤ 300000 := by
  cases h : right s
  · unfold putB; rw [h]; simp
  · rw [putB_right h, List.length_append, List.length_append]
    have h1 := putN_le s s.bs.length h
    obtain ⟨_, _, _, h4, h5, _⟩ := right_spec h
    have h2 := Vint.num_length 9 s.tail.toNat (by have := right_spec h; omega)
    have h3 := signB_le s.last
    split
    · omega
    · simp; omega
set_option maxRecDepth 100000 in
set_option maxHeartbeats 8000000 in
theorem blockPuts_walk (s t : Sig) (A B : Option Addr) (c d : Nat) (w : World) (hl : SR w w.heap.size A s.bs) (hm : SR w w.heap.size B t.bs) :
    Calls Try.prog 6 #[sigV s A c, sigV t B d] w (Ret (eqv (.bool true)) w) := by
  have gg := ((Gr.refl w).alloc (.cells (sigC s.size (.slice A s.bs.length c) s.tail s.last) 45)).alloc (.cells (sigC t.size (.slice B t.bs.length d) t.tail t.last) 45)
  have b1 := (Blk.new w 45 (sigC s.size (.slice A s.bs.length c) s.tail s.last)).alloc (.cells (sigC t.size (.slice B t.bs.length d) t.tail t.last) 45)
  have b2 := Blk.new (w.alloc (.cells (sigC s.size (.slice A s.bs.length c) s.tail s.last) 45)) 45 (sigC t.size (.slice B t.bs.length d) t.tail t.last)
  rw [World.size_alloc] at b2
  have bx := Lib.hid b1
  have by_ := Lib.hid b2
  have rs := Lib.hid ((hl.below gg).more (Below.size gg))
  have rt := Lib.hid ((hm.below gg).more (Below.size gg))
  have G0 := Lib.hid gg
  have hl0 := Lib.hid hl
  have hm0 := Lib.hid hm
  clear b1 b2 gg hl hm
  by_cases h1 : s.bs.length ≤ 40
  · by_cases h2 : t.bs.length ≤ 40
    · have h1' : ¬ (40 : Int) < (s.bs.length : Int) := by omega
      have h2' : ¬ (40 : Int) < (t.bs.length : Int) := by omega
      have hpl := putB_le s
      have hput := Lib.hid (fun A c w hr => put_any s A c w hr)
      have hrput := Lib.hid (fun A c w hr => refPut_any s A c w hr)
      obtain ⟨P, hP⟩ : ∃ P, putB s = P := ⟨_, rfl⟩
      rw [hP] at hpl hput hrput
      have hP' := Lib.hid hP
      clear hP
      obtain ⟨sm, hsm⟩ : ∃ sm, decide (s = t) = sm := ⟨_, rfl⟩
      have hsame := Lib.hid (fun A B c d w hl hm => same_any s t A B c d w hl hm (by omega))
      have hrsame := Lib.hid (fun A B c d w hl hm => refSame_any s t A B c d w hl hm (by omega))
      rw [hsm] at hsame hrsame
      clear hsm
      have hri := Lib.hid (fun A c w => right_any s A c w)
      have hrri := Lib.hid (fun A c w => refRight_any s A c w)
      have hto := Lib.hid (fun A c w hl => to_any s A c w hl (by omega))
      have hto2 := Lib.hid (fun A c w hl => to_any t A c w hl (by omega))
      have htt := Lib.hid (fun A c w => total_any s A c w)
      go_enter Try.func6, Try.ntmps6
      go_wp2
      refine region_grow (by kernel_rfl) (by kernel_rfl) ?_
      refine GW.p1 (.agg #[.int .i64 s.size, .slice A s.bs.length c, .int .i64 s.tail, .int .u32 (n32 s.last.1), .int .u64 (n64 s.last.2.1), .int .u64 (n64 s.last.2.2)]) rfl trivial (kn0 (t := 2) (c := .pointer (some ⟨w.heap.size, 0, none⟩)) (by kernel_rfl) rfl) (fun ρ w' hρ hg => by simp [execOp, hρ, go_sem, (hg.cell (p := ⟨w.heap.size, 0, none⟩) bx.out.lt).trans (bx.out.cell 0), (hg.cell (p := ⟨w.heap.size, 1, none⟩) bx.out.lt).trans (bx.out.cell 1), (hg.cell (p := ⟨w.heap.size, 2, none⟩) bx.out.lt).trans (bx.out.cell 2), (hg.cell (p := ⟨w.heap.size, 3, none⟩) bx.out.lt).trans (bx.out.cell 3), (hg.cell (p := ⟨w.heap.size, 4, none⟩) bx.out.lt).trans (bx.out.cell 4), (hg.cell (p := ⟨w.heap.size, 5, none⟩) bx.out.lt).trans (bx.out.cell 5)]) ?_
      refine GW.call1 (isSo 33 w.heap.size s) rfl trivial rfl Try.func23 (by kernel_rfl) (by kernel_rfl) (isSo_lasts _ _ _) (kn (t := 21) (j := 0) (by kernel_rfl)) (fun v w' hg hv => ?_) ?_
      · obtain rfl : v = _ := hv
        refine (hto.out A c w' ((rs.out.below hg).more (Below.size hg))).mono ?_
        rintro e w9 ⟨A9, c9, rfl, o9, hg9⟩
        exact ⟨_, rfl, ⟨A9, c9, rfl, OR.base_le o9 (Nat.le_trans (by rw [World.size_alloc, World.size_alloc]; omega) (Below.size hg))⟩, hg9⟩
      refine GW.p1 (.agg #[.int .i64 t.size, .slice B t.bs.length d, .int .i64 t.tail, .int .u32 (n32 t.last.1), .int .u64 (n64 t.last.2.1), .int .u64 (n64 t.last.2.2)]) rfl trivial (kn0 (t := 3) (c := .pointer (some ⟨w.heap.size + 1, 0, none⟩)) (by kernel_rfl) rfl) (fun ρ w' hρ hg => by simp [execOp, hρ, go_sem, (hg.cell (p := ⟨w.heap.size + 1, 0, none⟩) by_.out.lt).trans (by_.out.cell 0), (hg.cell (p := ⟨w.heap.size + 1, 1, none⟩) by_.out.lt).trans (by_.out.cell 1), (hg.cell (p := ⟨w.heap.size + 1, 2, none⟩) by_.out.lt).trans (by_.out.cell 2), (hg.cell (p := ⟨w.heap.size + 1, 3, none⟩) by_.out.lt).trans (by_.out.cell 3), (hg.cell (p := ⟨w.heap.size + 1, 4, none⟩) by_.out.lt).trans (by_.out.cell 4), (hg.cell (p := ⟨w.heap.size + 1, 5, none⟩) by_.out.lt).trans (by_.out.cell 5)]) ?_
      refine GW.call1 (isSo 33 w.heap.size t) rfl trivial rfl Try.func23 (by kernel_rfl) (by kernel_rfl) (isSo_lasts _ _ _) (kn (t := 23) (j := 2) (by kernel_rfl)) (fun v w' hg hv => ?_) ?_
      · obtain rfl : v = _ := hv
        refine (hto2.out B d w' ((rt.out.below hg).more (Below.size hg))).mono ?_
        rintro e w9 ⟨A9, c9, rfl, o9, hg9⟩
        exact ⟨_, rfl, ⟨A9, c9, rfl, OR.base_le o9 (Nat.le_trans (by rw [World.size_alloc, World.size_alloc]; omega) (Below.size hg))⟩, hg9⟩
      refine GW.alloc #[.int .i64 0, .slice none 0 0, .int .i64 0, .int .u32 0, .int .u64 0, .int .u64 0] rfl trivial rfl (fun w => by kernel_rfl) ?_
      refine GW.alloc #[.int .i64 0, .slice none 0 0, .int .i64 0, .int .u32 0, .int .u64 0, .int .u64 0] rfl trivial rfl (fun w => by kernel_rfl) ?_
      refine GW.tailF 4 5 5 6 (m := 6) (by simp) (by kernel_rfl) (by kernel_rfl) (MakesNew.mk' _ 35 #[.int .i64 0, .slice none 0 0, .int .i64 0, .int .u32 0, .int .u64 0, .int .u64 0] (by omega) rfl rfl rfl rfl (fun w => by kernel_rfl) rfl) (MakesNew.mk' _ 35 #[.int .i64 0, .slice none 0 0, .int .i64 0, .int .u32 0, .int .u64 0, .int .u64 0] (by omega) rfl rfl rfl rfl (fun w => by kernel_rfl) rfl) (by omega) (fun w' hg_ => ?_)
      intro v0 _ v1 h1 v2 _ v3 h3 v4 h4 v5 h5
      simp only [GFin, List.take_succ_cons, List.take_zero, List.drop_succ_cons, List.drop_zero, Act.put, List.setIfInBounds_toArray, List.set_cons_succ, List.set_cons_zero]
      intro hne
      obtain ⟨A1, c1, rfl, q1⟩ := h1
      obtain ⟨A3, c3, rfl, q3⟩ := h3
      obtain ⟨g5, rfl, hg5, n5⟩ := h4
      obtain ⟨g6, rfl, hg6, n6⟩ := h5
      have hgne : g5 ≠ g6 := fun e => hne (by subst e; rfl)
      have G3 := Lib.hid (Gr.trans G0.out hg_)
      have bx := Lib.hid (blk_more bx.out hg_)
      have by_ := Lib.hid (blk_more by_.out hg_)
      rw [World.size_alloc, World.size_alloc] at hg5 hg6
      have hsb : w.heap.size + 2 ≤ w'.heap.size := by have := Below.size hg_; rw [World.size_alloc, World.size_alloc] at this; exact this
      have q1 := Lib.hid q1
      have q3 := Lib.hid q3
      have n5 := Lib.hid n5
      have n6 := Lib.hid n6
      clear hne hg_ G0
      go_wp2_with (first
        | ((with_reducible refine wpList_isStore 35 (.tmp 5) (.tmp 22) rfl ?_); refine wpList_store_blk rfl 35 (.tmp 5) (.tmp 22) rfl g5 (sigC s.size (.slice A1 s.bs.length c1) s.tail s.last) rfl rfl 35 #[.int .i64 0, .slice none 0 0, .int .i64 0, .int .u32 0, .int .u64 0, .int .u64 0] n5.out (sigInfo _ _ _ _ _ _) rfl (by simp [Value.oneCell']) ?_; intro w4 k5 kb5 z5; have m6 := Lib.hid (kb5.blk n6.out (Ne.symm hgne)); have bx4 := Lib.hid (kb5.blk bx.out (by omega)); have by4 := Lib.hid (kb5.blk by_.out (by omega)); have s4 := Lib.hid (os_ne q1.out n5.out (by decide) kb5); have t4 := Lib.hid (os_ne q3.out n5.out (by decide) kb5); have G4 := Lib.hid (below_kb' (show Below w.heap.size w w' from G3.out) kb5 (by omega)); have k5 := Lib.hid k5; clear kb5 n5 n6 bx by_ q1 q3 G3)
        | ((with_reducible refine wpList_isStore 35 (.tmp 6) (.tmp 24) rfl ?_); refine wpList_store_blk rfl 35 (.tmp 6) (.tmp 24) rfl g6 (sigC t.size (.slice A3 t.bs.length c3) t.tail t.last) rfl rfl 35 #[.int .i64 0, .slice none 0 0, .int .i64 0, .int .u32 0, .int .u64 0, .int .u64 0] m6.out (sigInfo _ _ _ _ _ _) rfl (by simp [Value.oneCell']) ?_; intro w5 k6 kb6 z6; have x5 := Lib.hid (kb6.blk k5.out hgne); have x6 := Lib.hid k6; have bx5 := Lib.hid (kb6.blk bx4.out (by omega)); have by5 := Lib.hid (kb6.blk by4.out (by omega)); have s5 := Lib.hid (os_ne s4.out m6.out (by decide) kb6); have t5 := Lib.hid (os_ne t4.out m6.out (by decide) kb6); have G5 := Lib.hid (below_kb' G4.out kb6 (by omega)); have j0 := x5.out.cell 0; have j1 := x5.out.cell 1; have j2 := x5.out.cell 2; have j3 := x5.out.cell 3; have j4 := x5.out.cell 4; have j5 := x5.out.cell 5; clear kb6 k6 z6 k5 m6 bx4 by4 s4 t4 G4))
      go_at_call 22
      refine (hput.out A1 c1 _ (OS.sr s5.out)).mono ?_
      rintro e w7 ⟨v, rfl, ⟨A7, c7, rfl, hc7, hm7, r7⟩, g7⟩
      have rP := Lib.hid r7
      have G7 := Lib.hid (Gr.trans (show Gr w w5 from G5.out) g7)
      have x7 := Lib.hid (blk_more x5.out g7)
      have z7 := Lib.hid (blk_more x6.out g7)
      have bx7 := Lib.hid (blk_more bx5.out g7)
      have by7 := Lib.hid (blk_more by5.out g7)
      have s7 := Lib.hid (((OS.sr s5.out).below g7).more (Below.size g7))
      have t7 := Lib.hid (((OS.sr t5.out).below g7).more (Below.size g7))
      have l7 := Lib.hid ((hl0.out.below G7.out).more (Below.size G7.out))
      have m7 := Lib.hid ((hm0.out.below G7.out).more (Below.size G7.out))
      clear r7 g7 G5 x5 x6 bx5 by5 s5 t5 j0 j1 j2 j3 j4 j5 hput
      go_wp2
      refine region_grow (by kernel_rfl) (by kernel_rfl) ?_
      refine GW.mv rfl trivial (.inl rfl) (kn0' (t := 7) (c := .slice A7 P.length c7) (by kernel_rfl) rfl (isB_lasts _) (⟨A7, c7, rfl, hc7, hm7, rP.out⟩)) (isB_lasts _) ?_
      refine GW.bs (P) rfl trivial rfl Try.underlying26 byteType.1 Try.underlying9 (kn (t := 27) (j := 0) (by kernel_rfl)) ?_
      refine GW.p1 (.agg #[.int .i64 s.size, .slice A s.bs.length c, .int .i64 s.tail, .int .u32 (n32 s.last.1), .int .u64 (n64 s.last.2.1), .int .u64 (n64 s.last.2.2)]) rfl trivial (kn0 (t := 2) (c := .pointer (some ⟨w.heap.size, 0, none⟩)) (by kernel_rfl) rfl) (fun ρ w' hρ hg => by simp [execOp, hρ, go_sem, (hg.cell (p := ⟨w.heap.size, 0, none⟩) bx7.out.lt).trans (bx7.out.cell 0), (hg.cell (p := ⟨w.heap.size, 1, none⟩) bx7.out.lt).trans (bx7.out.cell 1), (hg.cell (p := ⟨w.heap.size, 2, none⟩) bx7.out.lt).trans (bx7.out.cell 2), (hg.cell (p := ⟨w.heap.size, 3, none⟩) bx7.out.lt).trans (bx7.out.cell 3), (hg.cell (p := ⟨w.heap.size, 4, none⟩) bx7.out.lt).trans (bx7.out.cell 4), (hg.cell (p := ⟨w.heap.size, 5, none⟩) bx7.out.lt).trans (bx7.out.cell 5)]) ?_
      refine GW.call1 (eqv (str P)) rfl trivial rfl Try.func24 (by kernel_rfl) (by kernel_rfl) (eqv_lasts _) (kn (t := 29) (j := 2) (by kernel_rfl)) (fun v w' hg hv => ?_) ?_
      · obtain rfl : v = _ := hv
        refine (hrput.out A c w' ((l7.out.below hg).more (Below.size hg))).mono ?_
        rintro e w9 ⟨rfl, hg9⟩
        exact ⟨_, rfl, rfl, hg9⟩
      refine GW.bin (.bool false) rfl trivial rfl (kn (t := 28) (j := 1) (by kernel_rfl)) (kn (t := 30) (j := 3) (by kernel_rfl)) (fun w' => by simp [go_sem]) ?_
      refine GW.mv rfl trivial (.inl rfl) (kn (t := 31) (j := 4) (by kernel_rfl)) (eqv_lasts _) ?_
      refine GW.p1 (.agg #[.int .i64 s.size, .slice A1 s.bs.length c1, .int .i64 s.tail, .int .u32 (n32 s.last.1), .int .u64 (n64 s.last.2.1), .int .u64 (n64 s.last.2.2)]) rfl ⟨32, by kernel_rfl, by kernel_rfl, fun _ _ h => h⟩ (kn0 (t := 5) (c := .pointer (some ⟨g5, 0, none⟩)) (by kernel_rfl) rfl) (fun ρ w' hρ hg => by simp [execOp, hρ, go_sem, (hg.cell (p := ⟨g5, 0, none⟩) x7.out.lt).trans (x7.out.cell 0), (hg.cell (p := ⟨g5, 1, none⟩) x7.out.lt).trans (x7.out.cell 1), (hg.cell (p := ⟨g5, 2, none⟩) x7.out.lt).trans (x7.out.cell 2), (hg.cell (p := ⟨g5, 3, none⟩) x7.out.lt).trans (x7.out.cell 3), (hg.cell (p := ⟨g5, 4, none⟩) x7.out.lt).trans (x7.out.cell 4), (hg.cell (p := ⟨g5, 5, none⟩) x7.out.lt).trans (x7.out.cell 5)]) ?_
      refine GW.call1 (eqv (.bool (right s))) rfl ⟨32, by kernel_rfl, by kernel_rfl, fun _ _ h => h⟩ rfl Try.func19 (by kernel_rfl) (by kernel_rfl) (eqv_lasts _) (kn (t := 33) (j := 6) (by kernel_rfl)) (fun v w' hg hv => ?_) ?_
      · obtain rfl : v = _ := hv
        refine (hri.out A1 c1 w').mono ?_
        rintro e w9 ⟨rfl, hg9⟩
        exact ⟨_, rfl, rfl, hg9⟩
      refine GW.p1 (.agg #[.int .i64 s.size, .slice A s.bs.length c, .int .i64 s.tail, .int .u32 (n32 s.last.1), .int .u64 (n64 s.last.2.1), .int .u64 (n64 s.last.2.2)]) rfl ⟨32, by kernel_rfl, by kernel_rfl, fun _ _ h => h⟩ (kn0 (t := 2) (c := .pointer (some ⟨w.heap.size, 0, none⟩)) (by kernel_rfl) rfl) (fun ρ w' hρ hg => by simp [execOp, hρ, go_sem, (hg.cell (p := ⟨w.heap.size, 0, none⟩) bx7.out.lt).trans (bx7.out.cell 0), (hg.cell (p := ⟨w.heap.size, 1, none⟩) bx7.out.lt).trans (bx7.out.cell 1), (hg.cell (p := ⟨w.heap.size, 2, none⟩) bx7.out.lt).trans (bx7.out.cell 2), (hg.cell (p := ⟨w.heap.size, 3, none⟩) bx7.out.lt).trans (bx7.out.cell 3), (hg.cell (p := ⟨w.heap.size, 4, none⟩) bx7.out.lt).trans (bx7.out.cell 4), (hg.cell (p := ⟨w.heap.size, 5, none⟩) bx7.out.lt).trans (bx7.out.cell 5)]) ?_
      refine GW.call1 (eqv (.bool (right s))) rfl ⟨32, by kernel_rfl, by kernel_rfl, fun _ _ h => h⟩ rfl Try.func25 (by kernel_rfl) (by kernel_rfl) (eqv_lasts _) (kn (t := 35) (j := 8) (by kernel_rfl)) (fun v w' hg hv => ?_) ?_
      · obtain rfl : v = _ := hv
        refine (hrri.out A c w').mono ?_
        rintro e w9 ⟨rfl, hg9⟩
        exact ⟨_, rfl, rfl, hg9⟩
      refine GW.bin (.bool false) rfl ⟨32, by kernel_rfl, by kernel_rfl, fun _ _ h => h⟩ rfl (kn (t := 34) (j := 7) (by kernel_rfl)) (kn (t := 36) (j := 9) (by kernel_rfl)) (fun w' => by cases right s <;> simp [go_sem]) ?_
      refine GW.pick (b := false) rfl trivial rfl (kn (t := 32) (j := 5) (by kernel_rfl)) (kn (t := 37) (j := 10) (by kernel_rfl)) (eqv_lasts _) ?_
      refine GW.mv rfl trivial (.inl rfl) (kn (t := 38) (j := 11) (by kernel_rfl)) (eqv_lasts _) ?_
      refine GW.p1 (.agg #[.int .i64 s.size, .slice A1 s.bs.length c1, .int .i64 s.tail, .int .u32 (n32 s.last.1), .int .u64 (n64 s.last.2.1), .int .u64 (n64 s.last.2.2)]) rfl ⟨39, by kernel_rfl, by kernel_rfl, fun _ _ h => h⟩ (kn0 (t := 5) (c := .pointer (some ⟨g5, 0, none⟩)) (by kernel_rfl) rfl) (fun ρ w' hρ hg => by simp [execOp, hρ, go_sem, (hg.cell (p := ⟨g5, 0, none⟩) x7.out.lt).trans (x7.out.cell 0), (hg.cell (p := ⟨g5, 1, none⟩) x7.out.lt).trans (x7.out.cell 1), (hg.cell (p := ⟨g5, 2, none⟩) x7.out.lt).trans (x7.out.cell 2), (hg.cell (p := ⟨g5, 3, none⟩) x7.out.lt).trans (x7.out.cell 3), (hg.cell (p := ⟨g5, 4, none⟩) x7.out.lt).trans (x7.out.cell 4), (hg.cell (p := ⟨g5, 5, none⟩) x7.out.lt).trans (x7.out.cell 5)]) ?_
      refine GW.p1 (.agg #[.int .i64 t.size, .slice A3 t.bs.length c3, .int .i64 t.tail, .int .u32 (n32 t.last.1), .int .u64 (n64 t.last.2.1), .int .u64 (n64 t.last.2.2)]) rfl ⟨39, by kernel_rfl, by kernel_rfl, fun _ _ h => h⟩ (kn0 (t := 6) (c := .pointer (some ⟨g6, 0, none⟩)) (by kernel_rfl) rfl) (fun ρ w' hρ hg => by simp [execOp, hρ, go_sem, (hg.cell (p := ⟨g6, 0, none⟩) z7.out.lt).trans (z7.out.cell 0), (hg.cell (p := ⟨g6, 1, none⟩) z7.out.lt).trans (z7.out.cell 1), (hg.cell (p := ⟨g6, 2, none⟩) z7.out.lt).trans (z7.out.cell 2), (hg.cell (p := ⟨g6, 3, none⟩) z7.out.lt).trans (z7.out.cell 3), (hg.cell (p := ⟨g6, 4, none⟩) z7.out.lt).trans (z7.out.cell 4), (hg.cell (p := ⟨g6, 5, none⟩) z7.out.lt).trans (z7.out.cell 5)]) ?_
      refine GW.call2 (eqv (.bool sm)) rfl ⟨39, by kernel_rfl, by kernel_rfl, fun _ _ h => h⟩ rfl Try.func26 (by kernel_rfl) (by kernel_rfl) (eqv_lasts _) (kn (t := 40) (j := 13) (by kernel_rfl)) (kn (t := 41) (j := 14) (by kernel_rfl)) (fun v u w' hg hv hu => ?_) ?_
      · obtain rfl : v = _ := hv
        obtain rfl : u = _ := hu
        refine (hsame.out A1 A3 c1 c3 w' ((s7.out.below hg).more (Below.size hg)) ((t7.out.below hg).more (Below.size hg))).mono ?_
        rintro e w9 ⟨rfl, hg9⟩
        exact ⟨_, rfl, rfl, hg9⟩
      refine GW.p1 (.agg #[.int .i64 s.size, .slice A s.bs.length c, .int .i64 s.tail, .int .u32 (n32 s.last.1), .int .u64 (n64 s.last.2.1), .int .u64 (n64 s.last.2.2)]) rfl ⟨39, by kernel_rfl, by kernel_rfl, fun _ _ h => h⟩ (kn0 (t := 2) (c := .pointer (some ⟨w.heap.size, 0, none⟩)) (by kernel_rfl) rfl) (fun ρ w' hρ hg => by simp [execOp, hρ, go_sem, (hg.cell (p := ⟨w.heap.size, 0, none⟩) bx7.out.lt).trans (bx7.out.cell 0), (hg.cell (p := ⟨w.heap.size, 1, none⟩) bx7.out.lt).trans (bx7.out.cell 1), (hg.cell (p := ⟨w.heap.size, 2, none⟩) bx7.out.lt).trans (bx7.out.cell 2), (hg.cell (p := ⟨w.heap.size, 3, none⟩) bx7.out.lt).trans (bx7.out.cell 3), (hg.cell (p := ⟨w.heap.size, 4, none⟩) bx7.out.lt).trans (bx7.out.cell 4), (hg.cell (p := ⟨w.heap.size, 5, none⟩) bx7.out.lt).trans (bx7.out.cell 5)]) ?_
      refine GW.p1 (.agg #[.int .i64 t.size, .slice B t.bs.length d, .int .i64 t.tail, .int .u32 (n32 t.last.1), .int .u64 (n64 t.last.2.1), .int .u64 (n64 t.last.2.2)]) rfl ⟨39, by kernel_rfl, by kernel_rfl, fun _ _ h => h⟩ (kn0 (t := 3) (c := .pointer (some ⟨w.heap.size + 1, 0, none⟩)) (by kernel_rfl) rfl) (fun ρ w' hρ hg => by simp [execOp, hρ, go_sem, (hg.cell (p := ⟨w.heap.size + 1, 0, none⟩) by7.out.lt).trans (by7.out.cell 0), (hg.cell (p := ⟨w.heap.size + 1, 1, none⟩) by7.out.lt).trans (by7.out.cell 1), (hg.cell (p := ⟨w.heap.size + 1, 2, none⟩) by7.out.lt).trans (by7.out.cell 2), (hg.cell (p := ⟨w.heap.size + 1, 3, none⟩) by7.out.lt).trans (by7.out.cell 3), (hg.cell (p := ⟨w.heap.size + 1, 4, none⟩) by7.out.lt).trans (by7.out.cell 4), (hg.cell (p := ⟨w.heap.size + 1, 5, none⟩) by7.out.lt).trans (by7.out.cell 5)]) ?_
      refine GW.call2 (eqv (.bool sm)) rfl ⟨39, by kernel_rfl, by kernel_rfl, fun _ _ h => h⟩ rfl Try.func14 (by kernel_rfl) (by kernel_rfl) (eqv_lasts _) (kn (t := 43) (j := 16) (by kernel_rfl)) (kn (t := 44) (j := 17) (by kernel_rfl)) (fun v u w' hg hv hu => ?_) ?_
      · obtain rfl : v = _ := hv
        obtain rfl : u = _ := hu
        refine (hrsame.out A B c d w' ((l7.out.below hg).more (Below.size hg)) ((m7.out.below hg).more (Below.size hg))).mono ?_
        rintro e w9 ⟨rfl, hg9⟩
        exact ⟨_, rfl, rfl, hg9⟩
      refine GW.bin (.bool false) rfl ⟨39, by kernel_rfl, by kernel_rfl, fun _ _ h => h⟩ rfl (kn (t := 42) (j := 15) (by kernel_rfl)) (kn (t := 45) (j := 18) (by kernel_rfl)) (fun w' => by cases sm <;> simp [go_sem]) ?_
      refine GW.pick (b := false) rfl trivial rfl (kn (t := 39) (j := 12) (by kernel_rfl)) (kn (t := 46) (j := 19) (by kernel_rfl)) (eqv_lasts _) ?_
      refine GW.done (by simp) (by kernel_rfl) (fun w' hg_ => ?_)
      intro v0 _ v1 _ v2 _ v3 _ v4 _ v5 _ v6 _ v7 _ v8 _ v9 _ v10 _ v11 _ v12 _ v13 _ v14 _ v15 _ v16 _ v17 _ v18 _ v19 _ v20 h20
      obtain rfl : v20 = (.bool false) := h20
      simp only [GFin, Act.put, List.setIfInBounds_toArray, List.set_cons_succ, List.set_cons_zero]
      have bx8 := Lib.hid (blk_more bx7.out hg_)
      have x8 := Lib.hid (blk_more x7.out hg_)
      have G8 := Lib.hid (Gr.trans G7.out hg_)
      have rP8 := Lib.hid ((rP.out.below hg_).more (Below.size hg_))
      have l8 := Lib.hid ((hl0.out.below G8.out).more (Below.size G8.out))
      have s8 := Lib.hid ((s7.out.below hg_).more (Below.size hg_))
      clear bx7 by7 x7 z7 G7 rP l7 m7 s7 t7 hg_ hsame hrsame
      have hrr := Lib.hid (fun A c w => refRight_any s A c w)
      go_wp2_with (first
        | ((with_reducible refine wpList_isLoad 45 (.tmp 2) rfl ?_); refine wpList_load_row rfl 45 (.tmp 2) rfl w.heap.size rfl 45 _ (0, 0) _ bx8.out Try.underlying45 rfl (refSigInfo _ _ _ _ _ _) ?_))
      go_at_call 25
      refine (hrr.out A c _).mono ?_
      rintro e w9 ⟨rfl, g9⟩
      have bx9 := Lib.hid (blk_more bx8.out g9)
      have x9 := Lib.hid (blk_more x8.out g9)
      have G9 := Lib.hid (Gr.trans G8.out g9)
      have rP9 := Lib.hid ((rP8.out.below g9).more (Below.size g9))
      have s9 := Lib.hid ((s8.out.below g9).more (Below.size g9))
      clear bx8 x8 G8 rP8 l8 s8 g9 hrr hrri hri
      cases hr : right s
      · have ht0 : total s = 0 := by unfold total; rw [hr]; rfl
        rw [ht0] at htt
        clear hr
        go_wp2_with fail
        go_at_call 9
        refine (awake_any _).mono ?_
        rintro e wA ⟨rfl, gA⟩
        have xA := Lib.hid (blk_more x9.out gA)
        have GA := Lib.hid (Gr.trans G9.out gA)
        clear gA x9 G9
        have j0 := xA.out.cell 0
        have j1 := xA.out.cell 1
        have j2 := xA.out.cell 2
        have j3 := xA.out.cell 3
        have j4 := xA.out.cell 4
        have j5 := xA.out.cell 5
        go_wp2_with fail
        go_at_call 18
        refine (htt.out A1 c1 _).mono ?_
        rintro e wB ⟨rfl, gB⟩
        have GB := Lib.hid (Gr.trans GA.out gB)
        clear gB
        go_wp2
        go_ret
        exact ⟨_, rfl, rfl, GB.out⟩
      · have hgp := gets_put hr
        rw [hP'.out] at hgp
        have hge := Lib.hid (get_any A7 c7 P _ (by omega) rP9.out)
        rw [hgp] at hge
        have htv : total s = (s.bs.length : Int) * s.size + s.tail := by unfold total; rw [hr]; rfl
        obtain ⟨p1, p2, p3, p4, p5, _⟩ := right_spec hr
        have hmu : (s.bs.length : Int) * s.size ≤ 4096 * 64 := Int.mul_le_mul (by omega) p2 (by omega) (by omega)
        have hm0' : 0 ≤ (s.bs.length : Int) * s.size := Int.mul_nonneg (by omega) (by omega)
        obtain ⟨mu, hmue⟩ : ∃ mu, (s.bs.length : Int) * s.size = mu := ⟨_, rfl⟩
        rw [hmue] at htv hmu hm0'
        have hmue := Lib.hid hmue
        rw [htv] at htt
        have hfr := Lib.hid (fun A c w hl => from_any s A c w hl (by omega))
        have hsm := Lib.hid (fun A B c d w hl hm => refSame_any s s A B c d w hl hm (by omega))
        clear hr hgp htv rP9
        go_wp2_with fail
        go_at_call 20
        refine hge.out.mono ?_
        rintro e wA ⟨A8, c8, rfl, oA, gA⟩
        have gg := Gr.alloc gA (.cells (sigC s.size (.slice A8 s.bs.length c8) s.tail s.last) 35)
        have n8 := Lib.hid (Blk.new wA 35 (sigC s.size (.slice A8 s.bs.length c8) s.tail s.last))
        have xA := Lib.hid (blk_more x9.out gg)
        have bxA := Lib.hid (blk_more bx9.out gg)
        have GA := Lib.hid (Gr.trans G9.out gg)
        have sA := Lib.hid ((s9.out.below gg).more (Below.size gg))
        have lA := Lib.hid ((hl0.out.below GA.out).more (Below.size GA.out))
        have rA := Lib.hid (((OS.sr oA).below ((Gr.refl wA).alloc (.cells (sigC s.size (.slice A8 s.bs.length c8) s.tail s.last) 35))).more (by rw [World.size_alloc]; omega) : SR (wA.alloc (.cells (sigC s.size (.slice A8 s.bs.length c8) s.tail s.last) 35)) (wA.alloc (.cells (sigC s.size (.slice A8 s.bs.length c8) s.tail s.last) 35)).heap.size A8 s.bs)
        clear x9 bx9 G9 s9 gA gg oA hge
        go_wp2
        refine region_grow (by kernel_rfl) (by kernel_rfl) ?_
        refine GW.call0 (eqv (.bool true)) rfl trivial rfl Try.func9 (by kernel_rfl) (by kernel_rfl) (eqv_lasts _)  (fun w' hg => ?_) ?_
        · refine (awake_any w').mono ?_
          rintro e w9 ⟨rfl, hg9⟩
          exact ⟨_, rfl, rfl, hg9⟩
        refine GW.mv rfl trivial (.inl rfl) (kn (t := 62) (j := 0) (by kernel_rfl)) (eqv_lasts _) ?_
        refine GW.mv rfl ⟨63, by kernel_rfl, by kernel_rfl, fun _ _ h => h⟩ (.inl rfl) (kn0 (t := 9) (c := .int .i64 0) (by kernel_rfl) rfl) (eqv_lasts _) ?_
        refine GW.bin (.bool true) rfl ⟨63, by kernel_rfl, by kernel_rfl, fun _ _ h => h⟩ rfl (kn (t := 64) (j := 2) (by kernel_rfl)) knc (fun w' => by simp [go_sem]) ?_
        refine GW.pick (b := true) rfl trivial rfl (kn (t := 63) (j := 1) (by kernel_rfl)) (kn (t := 65) (j := 3) (by kernel_rfl)) (eqv_lasts _) ?_
        refine GW.mv rfl trivial (.inl rfl) (kn (t := 66) (j := 4) (by kernel_rfl)) (eqv_lasts _) ?_
        refine GW.p1 (.agg #[.int .i64 s.size, .slice A8 s.bs.length c8, .int .i64 s.tail, .int .u32 (n32 s.last.1), .int .u64 (n64 s.last.2.1), .int .u64 (n64 s.last.2.2)]) rfl ⟨67, by kernel_rfl, by kernel_rfl, fun _ _ h => h⟩ (kn0 (t := 8) (c := .pointer (some ⟨wA.heap.size, 0, none⟩)) (by kernel_rfl) rfl) (fun ρ w' hρ hg => by simp [execOp, hρ, go_sem, (hg.cell (p := ⟨wA.heap.size, 0, none⟩) n8.out.lt).trans (n8.out.cell 0), (hg.cell (p := ⟨wA.heap.size, 1, none⟩) n8.out.lt).trans (n8.out.cell 1), (hg.cell (p := ⟨wA.heap.size, 2, none⟩) n8.out.lt).trans (n8.out.cell 2), (hg.cell (p := ⟨wA.heap.size, 3, none⟩) n8.out.lt).trans (n8.out.cell 3), (hg.cell (p := ⟨wA.heap.size, 4, none⟩) n8.out.lt).trans (n8.out.cell 4), (hg.cell (p := ⟨wA.heap.size, 5, none⟩) n8.out.lt).trans (n8.out.cell 5)]) ?_
        refine GW.call1 (isSg' s) rfl ⟨67, by kernel_rfl, by kernel_rfl, fun _ _ h => h⟩ rfl Try.func15 (by kernel_rfl) (by kernel_rfl) (isSg_lasts' _) (kn (t := 68) (j := 6) (by kernel_rfl)) (fun v w' hg hv => ?_) ?_
        · obtain rfl : v = _ := hv
          refine (hfr.out A8 c8 w' ((rA.out.below hg).more (Below.size hg))).mono ?_
          rintro e w9 ⟨A9, c9, rfl, o9, hg9⟩
          exact ⟨_, rfl, isSg_out' o9, hg9⟩
        refine GW.p1 (.agg #[.int .i64 s.size, .slice A s.bs.length c, .int .i64 s.tail, .int .u32 (n32 s.last.1), .int .u64 (n64 s.last.2.1), .int .u64 (n64 s.last.2.2)]) rfl ⟨67, by kernel_rfl, by kernel_rfl, fun _ _ h => h⟩ (kn0 (t := 2) (c := .pointer (some ⟨w.heap.size, 0, none⟩)) (by kernel_rfl) rfl) (fun ρ w' hρ hg => by simp [execOp, hρ, go_sem, (hg.cell (p := ⟨w.heap.size, 0, none⟩) bxA.out.lt).trans (bxA.out.cell 0), (hg.cell (p := ⟨w.heap.size, 1, none⟩) bxA.out.lt).trans (bxA.out.cell 1), (hg.cell (p := ⟨w.heap.size, 2, none⟩) bxA.out.lt).trans (bxA.out.cell 2), (hg.cell (p := ⟨w.heap.size, 3, none⟩) bxA.out.lt).trans (bxA.out.cell 3), (hg.cell (p := ⟨w.heap.size, 4, none⟩) bxA.out.lt).trans (bxA.out.cell 4), (hg.cell (p := ⟨w.heap.size, 5, none⟩) bxA.out.lt).trans (bxA.out.cell 5)]) ?_
        refine GW.call2 (eqv (.bool true)) rfl ⟨67, by kernel_rfl, by kernel_rfl, fun _ _ h => h⟩ rfl Try.func14 (by kernel_rfl) (by kernel_rfl) (eqv_lasts _) (kn (t := 69) (j := 7) (by kernel_rfl)) (kn (t := 70) (j := 8) (by kernel_rfl)) (fun v u w' hg hv hu => ?_) ?_
        · obtain ⟨A9, c9, rfl, q9⟩ := hv
          obtain rfl : u = _ := hu
          refine (hsm.out A9 A c9 c w' q9 ((lA.out.below hg).more (Below.size hg))).mono ?_
          rintro e w9 ⟨rfl, hg9⟩
          exact ⟨_, rfl, rfl, hg9⟩
        refine GW.pick (b := true) rfl trivial rfl (kn (t := 67) (j := 5) (by kernel_rfl)) (kn (t := 71) (j := 9) (by kernel_rfl)) (eqv_lasts _) ?_
        refine GW.mv rfl trivial (.inl rfl) (kn (t := 72) (j := 10) (by kernel_rfl)) (eqv_lasts _) ?_
        refine GW.p1 (.agg #[.int .i64 s.size, .slice A1 s.bs.length c1, .int .i64 s.tail, .int .u32 (n32 s.last.1), .int .u64 (n64 s.last.2.1), .int .u64 (n64 s.last.2.2)]) rfl ⟨73, by kernel_rfl, by kernel_rfl, fun _ _ h => h⟩ (kn0 (t := 5) (c := .pointer (some ⟨g5, 0, none⟩)) (by kernel_rfl) rfl) (fun ρ w' hρ hg => by simp [execOp, hρ, go_sem, (hg.cell (p := ⟨g5, 0, none⟩) xA.out.lt).trans (xA.out.cell 0), (hg.cell (p := ⟨g5, 1, none⟩) xA.out.lt).trans (xA.out.cell 1), (hg.cell (p := ⟨g5, 2, none⟩) xA.out.lt).trans (xA.out.cell 2), (hg.cell (p := ⟨g5, 3, none⟩) xA.out.lt).trans (xA.out.cell 3), (hg.cell (p := ⟨g5, 4, none⟩) xA.out.lt).trans (xA.out.cell 4), (hg.cell (p := ⟨g5, 5, none⟩) xA.out.lt).trans (xA.out.cell 5)]) ?_
        refine GW.call1 (eqv (.int .i64 (mu + s.tail))) rfl ⟨73, by kernel_rfl, by kernel_rfl, fun _ _ h => h⟩ rfl Try.func18 (by kernel_rfl) (by kernel_rfl) (eqv_lasts _) (kn (t := 74) (j := 12) (by kernel_rfl)) (fun v w' hg hv => ?_) ?_
        · obtain rfl : v = _ := hv
          refine (htt.out A1 c1 w').mono ?_
          rintro e w9 ⟨rfl, hg9⟩
          exact ⟨_, rfl, rfl, hg9⟩
        refine GW.p1 (.pointer (some ⟨w.heap.size, 1, none⟩)) rfl ⟨73, by kernel_rfl, by kernel_rfl, fun _ _ h => h⟩ (kn0 (t := 2) (c := .pointer (some ⟨w.heap.size, 0, none⟩)) (by kernel_rfl) rfl) (fun ρ w' hρ hg => by simp [execOp, hρ, go_sem]) ?_
        refine GW.p1 (.slice A s.bs.length c) rfl ⟨73, by kernel_rfl, by kernel_rfl, fun _ _ h => h⟩ (kn (t := 76) (j := 14) (by kernel_rfl)) (fun ρ w' hρ hg => by simp [execOp, hρ, go_sem, (hg.cell (p := ⟨w.heap.size, 1, none⟩) bxA.out.lt).trans (bxA.out.cell 1)]) ?_
        refine GW.lenV rfl ⟨73, by kernel_rfl, by kernel_rfl, fun _ _ h => h⟩ rfl Try.underlying43 (kn (t := 77) (j := 15) (by kernel_rfl)) ?_
        refine GW.p1 (.pointer (some ⟨w.heap.size, 0, none⟩)) rfl ⟨73, by kernel_rfl, by kernel_rfl, fun _ _ h => h⟩ (kn0 (t := 2) (c := .pointer (some ⟨w.heap.size, 0, none⟩)) (by kernel_rfl) rfl) (fun ρ w' hρ hg => by simp [execOp, hρ, go_sem]) ?_
        refine GW.p1 (.int .i64 s.size) rfl ⟨73, by kernel_rfl, by kernel_rfl, fun _ _ h => h⟩ (kn (t := 79) (j := 17) (by kernel_rfl)) (fun ρ w' hρ hg => by simp [execOp, hρ, go_sem, (hg.cell (p := ⟨w.heap.size, 0, none⟩) bxA.out.lt).trans (bxA.out.cell 0)]) ?_
        refine GW.bin (.int .i64 mu) rfl ⟨73, by kernel_rfl, by kernel_rfl, fun _ _ h => h⟩ rfl (kn (t := 78) (j := 16) (by kernel_rfl)) (kn (t := 80) (j := 18) (by kernel_rfl)) (fun w' => run_mul_ok _ _ _ hmue.out hm0' (by omega) _ _ w') ?_
        refine GW.p1 (.pointer (some ⟨w.heap.size, 2, none⟩)) rfl ⟨73, by kernel_rfl, by kernel_rfl, fun _ _ h => h⟩ (kn0 (t := 2) (c := .pointer (some ⟨w.heap.size, 0, none⟩)) (by kernel_rfl) rfl) (fun ρ w' hρ hg => by simp [execOp, hρ, go_sem]) ?_
        refine GW.p1 (.int .i64 s.tail) rfl ⟨73, by kernel_rfl, by kernel_rfl, fun _ _ h => h⟩ (kn (t := 82) (j := 20) (by kernel_rfl)) (fun ρ w' hρ hg => by simp [execOp, hρ, go_sem, (hg.cell (p := ⟨w.heap.size, 2, none⟩) bxA.out.lt).trans (bxA.out.cell 2)]) ?_
        refine GW.bin (.int .i64 (mu + s.tail)) rfl ⟨73, by kernel_rfl, by kernel_rfl, fun _ _ h => h⟩ rfl (kn (t := 81) (j := 19) (by kernel_rfl)) (kn (t := 83) (j := 21) (by kernel_rfl)) (fun w' => run_add_ok _ _ (by omega) (by omega) _ _ w') ?_
        refine GW.bin (.bool true) rfl ⟨73, by kernel_rfl, by kernel_rfl, fun _ _ h => h⟩ rfl (kn (t := 75) (j := 13) (by kernel_rfl)) (kn (t := 84) (j := 22) (by kernel_rfl)) (fun w' => by simp [go_sem]) ?_
        refine GW.pick (b := true) rfl trivial rfl (kn (t := 73) (j := 11) (by kernel_rfl)) (kn (t := 85) (j := 23) (by kernel_rfl)) (eqv_lasts _) ?_
        refine GW.mv rfl trivial (.inr rfl) (kn (t := 86) (j := 24) (by kernel_rfl)) (eqv_lasts _) ?_
        refine GW.done (by simp) (by kernel_rfl) (fun w' hg_ => ?_)
        intro v0 _ v1 _ v2 _ v3 _ v4 _ v5 _ v6 _ v7 _ v8 _ v9 _ v10 _ v11 _ v12 _ v13 _ v14 _ v15 _ v16 _ v17 _ v18 _ v19 _ v20 _ v21 _ v22 _ v23 _ v24 _ v25 h25
        obtain rfl : v25 = (.bool true) := h25
        simp only [GFin, Act.put, List.setIfInBounds_toArray, List.set_cons_succ, List.set_cons_zero]
        go_wp2
        go_ret
        exact ⟨_, rfl, rfl, Gr.trans GA.out hg_⟩
    · have h1' : ¬ (40 : Int) < (s.bs.length : Int) := by omega
      have h2' : (40 : Int) < (t.bs.length : Int) := by omega
      have z0 := bx.out.cell 1
      have z1 := by_.out.cell 1
      clear bx by_ rs rt hl0 hm0
      go_enter Try.func6, Try.ntmps6
      go_wp2_with fail
      go_at_call 9
      refine (awake_any _).mono ?_
      rintro e w2 ⟨rfl, g2⟩
      have G2 := Lib.hid (Gr.trans G0.out g2)
      clear g2
      go_wp2
      go_ret
      exact ⟨_, rfl, rfl, G2.out⟩
  · have h1' : (40 : Int) < (s.bs.length : Int) := by omega
    have z0 := bx.out.cell 1
    have z1 := by_.out.cell 1
    clear bx by_ rs rt hl0 hm0
    go_enter Try.func6, Try.ntmps6
    go_wp2_with fail
    go_at_call 9
    refine (awake_any _).mono ?_
    rintro e w2 ⟨rfl, g2⟩
    have G2 := Lib.hid (Gr.trans G0.out g2)
    clear g2
    go_wp2
    go_ret
    exact ⟨_, rfl, rfl, G2.out⟩
end Sg
end Go.Proofs.Ytcibngbgcnnjnaa
