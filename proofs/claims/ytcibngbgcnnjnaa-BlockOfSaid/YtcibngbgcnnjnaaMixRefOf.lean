/- The walk of the reference's sum of bytes. No condition but sizes. -/
import Derived.Test.YtcibngbgcnnjnaaMixAwake
import Derived.Test.YtcibngbgcnnjnaaMemB
set_option linter.unusedVariables false
set_option linter.unusedSimpArgs false
namespace Go.Proofs.Ytcibngbgcnnjnaa
open Go Go.RowKit W
namespace Mix
theorem take8_step {l : List UInt8} {at_ k : Nat} (h : at_ + k < l.length) : (l.drop at_).take (k + 1) = (l.drop at_).take k ++ [l[at_ + k]] := by
  have h' : k < (l.drop at_).length := by rw [List.length_drop]; omega
  rw [List.take_succ_eq_append_getElem h']
  simp
theorem word_take_end {l : List UInt8} {at_ k : Nat} (hk : k ≤ 8) (hl : at_ + k ≤ l.length) (h : ¬ (k < 8 ∧ at_ + k < l.length)) : (l.drop at_).take k = (l.drop at_).take 8 := by
  by_cases h8 : k = 8
  · rw [h8]
  · have : k = l.length - at_ := by omega
    rw [this, List.take_of_length_le (by rw [List.length_drop]; omega), List.take_of_length_le (by rw [List.length_drop]; omega)]
set_option maxRecDepth 100000 in
set_option maxHeartbeats 2000000 in
theorem refOf_any (l : List UInt8) (w : World) (hs : l.length ≤ 1099511627776) : Calls Try.prog 32 #[str l] w fun e' w' => e' = .returned (sumV (of l)) ∧ Gr w w' := by
  obtain ⟨s, hse⟩ : ∃ s : ByteArray, s = ⟨l.toArray⟩ := ⟨_, rfl⟩
  have hsz : s.size = l.length := by subst hse; simp [ByteArray.size]
  have hget : ∀ k (h : k < s.size) (h' : k < l.length), s[k] = l[k] := by subst hse; exact fun k h h' => rfl
  show Calls _ _ #[.string ⟨l.toArray⟩] _ _
  rw [← hse]
  have hs' : s.size ≤ 1099511627776 := by omega
  have hsz' := Lib.hid hsz
  have hget' := Lib.hid hget
  clear hsz hse hget
  have hst := Lib.hid (refStart_any (w.alloc (.cells #[.int .u64 0, .int .u64 0] 31)))
  have hb0 := Blk.new w 31 #[.int .u64 0, .int .u64 0]
  have hg0 := (Gr.refl w).alloc (.cells #[.int .u64 0, .int .u64 0] 31)
  replace hb0 := Lib.hid hb0
  replace hg0 := Lib.hid hg0
  go_enter Try.func32, Try.ntmps32
  go_wp2_with fail
  refine hst.out.mono ?_
  rintro e w1 ⟨rfl, hgr⟩
  have hb0 := Lib.hid ((hb0.out.below hgr hb0.out.lt).alloc (.cells #[.int .u64 (n64 start.1), .int .u64 (n64 start.2)] 31))
  have hb1 := Lib.hid (Blk.new w1 31 #[.int .u64 (n64 start.1), .int .u64 (n64 start.2)])
  have hlt : w.heap.size < w1.heap.size := (hb0.out.lt |> fun h => by have := hgr.size; rw [World.size_alloc] at this; omega)
  have hg0 := Lib.hid ((hg0.out.trans hgr).alloc (.cells #[.int .u64 (n64 start.1), .int .u64 (n64 start.2)] 31))
  clear hgr hst
  go_wp2_with fail
  go_loopw [4] (fun i wr => ∃ (k : Nat) (st : St), k ≤ s.size + 7 ∧ i = .int .i64 k ∧ Gr w wr ∧ Blk wr w.heap.size 31 #[.int .u64 0, .int .u64 0] ∧ Blk wr w1.heap.size 31 #[.int .u64 (n64 st.1), .int .u64 (n64 st.2)] ∧ Hid (eights st (l.drop k) = eights start l)) (fun i _ => s.size + 7 - (intOf i).toNat)
  case atStart => exact ⟨0, start, Nat.zero_le _, rfl, hg0.out, hb0.out, hb1.out, Lib.hid rfl⟩
  case round =>
    obtain ⟨a, st, ha, rfl, hg, hbr, hbs, he⟩ := hrel
    clear hb0 hb1 hg0
    replace hg := Lib.hid hg
    replace hbr := Lib.hid hbr
    replace hbs := Lib.hid hbs
    by_cases h : a < s.size
    · go_wp2
      go_loop [5, 6, 7] (fun x u i => ∃ (k : Nat) (y z : UInt64), k ≤ 8 ∧ a + k ≤ s.size ∧ x = .int .u64 (n64 y) ∧ u = .int .u64 (n64 z) ∧ i = .int .i64 ((a + k : Nat) : Int) ∧ Hid (y = word ((l.drop a).take k) ∧ z = UInt64.ofNat (256 ^ k))) (fun _ _ i => a + 8 - (intOf i).toNat)
      case atStart => exact ⟨0, 0, 1, by omega, by omega, rfl, rfl, rfl, Lib.hid ⟨rfl, rfl⟩⟩
      case round =>
        obtain ⟨k, y, z, hk, hak, rfl, rfl, rfl, hyz⟩ := hrel
        by_cases hc : k < 8 ∧ a + k < s.size
        · obtain ⟨hk8, hks⟩ := hc
          have hks' : a + k < l.length := by rw [← hsz'.out]; exact hks
          have hgt := hget'.out (a + k) hks hks'
          have hnew : Hid (y + z * s[a + k].toUInt64 = word ((l.drop a).take (k + 1)) ∧ z * 256 = UInt64.ofNat (256 ^ (k + 1))) := by
            obtain ⟨h1, h2⟩ := hyz.out
            have hlen : ((l.drop a).take k).length = k := by simp; omega
            have h3 := word_add ((l.drop a).take k) l[a + k]
            rw [hlen] at h3
            refine Lib.hid ⟨?_, ?_⟩
            · rw [h1, h2, hgt, take8_step hks', ← h3]
            · rw [h2, unit_step]
          clear hgt hyz
          go_wp2
          go_round
          case rel => exact ⟨k + 1, _, _, by omega, by omega, rfl, rfl, by go_num, hnew⟩
          case measure => simp [intOf]; omega
        · have hw8 : Hid (y = word ((l.drop a).take 8)) := by
            obtain ⟨h1, h2⟩ := hyz.out
            rw [word_take_end hk (by rw [← hsz'.out]; exact hak) (by rw [← hsz'.out]; exact hc)] at h1
            exact Lib.hid h1
          clear hyz
          have hel : Hid (eights (round st y) (l.drop (a + 8)) = eights start l) := by
            have h1 := he.out
            rw [eights_some (by rw [List.length_drop, ← hsz'.out]; omega), List.drop_drop, ← hw8.out] at h1
            exact Lib.hid h1
          have hrr := Lib.hid (refRound_any st y wr)
          have c0 := hbs.out.cell 0
          have c1 := hbs.out.cell 1
          clear he hw8
          by_cases hk8 : k < 8
          · have hks : ¬ a + k < s.size := fun h => hc ⟨hk8, h⟩
            clear hc
            go_wp2_with fail
            refine hrr.out.mono ?_
            rintro e w2 ⟨rfl, hgr⟩
            have hb2 := hbs.out.below hgr hbs.out.lt
            have q0 := hb2.frozen 0
            have q1 := hb2.frozen 1
            have hb3 := Lib.hid ((hb2.set_ 0 (.int .u64 (n64 (round st y).1))).set_ 1 (.int .u64 (n64 (round st y).2)))
            have hb4 := Lib.hid (((hbr.out.below hgr hbr.out.lt).far (p := ⟨w1.heap.size, 0, none⟩) (by show w.heap.size ≠ w1.heap.size; omega) (.int .u64 (n64 (round st y).1))).far (p := ⟨w1.heap.size, 1, none⟩) (by show w.heap.size ≠ w1.heap.size; omega) (.int .u64 (n64 (round st y).2)))
            have hg3 := Lib.hid (Below.setCell (Below.setCell (hg.out.trans hgr) (p := ⟨w1.heap.size, 0, none⟩) (Nat.le_of_lt hlt) (.int .u64 (n64 (round st y).1))) (p := ⟨w1.heap.size, 1, none⟩) (Nat.le_of_lt hlt) (.int .u64 (n64 (round st y).2)))
            have q2 : (w2.setCell ⟨w1.heap.size, 0, none⟩ (.int .u64 (n64 (round st y).1))).frozen? ⟨w1.heap.size, 1, none⟩ = false := (hb2.set_ 0 _).frozen 1
            have q3 : w2.cell? ⟨w1.heap.size, 0, none⟩ = some (.int .u64 (n64 st.1)) := hb2.cell 0
            have q4 : (w2.setCell ⟨w1.heap.size, 0, none⟩ (.int .u64 (n64 (round st y).1))).cell? ⟨w1.heap.size, 1, none⟩ = some (.int .u64 (n64 st.2)) := (hb2.set_ 0 _).cell 1
            clear hb2 hgr hg hbr hbs c0 c1 hrr
            go_wp2
            go_roundw
            case rel => exact ⟨a + 8, round st y, by omega, by go_num, hg3.out, hb4.out, hb3.out, hel⟩
            case measure => simp [intOf]; omega
          · obtain rfl : k = 8 := by omega
            clear hc
            go_wp2_with fail
            refine hrr.out.mono ?_
            rintro e w2 ⟨rfl, hgr⟩
            have hb2 := hbs.out.below hgr hbs.out.lt
            have q0 := hb2.frozen 0
            have q1 := hb2.frozen 1
            have hb3 := Lib.hid ((hb2.set_ 0 (.int .u64 (n64 (round st y).1))).set_ 1 (.int .u64 (n64 (round st y).2)))
            have hb4 := Lib.hid (((hbr.out.below hgr hbr.out.lt).far (p := ⟨w1.heap.size, 0, none⟩) (by show w.heap.size ≠ w1.heap.size; omega) (.int .u64 (n64 (round st y).1))).far (p := ⟨w1.heap.size, 1, none⟩) (by show w.heap.size ≠ w1.heap.size; omega) (.int .u64 (n64 (round st y).2)))
            have hg3 := Lib.hid (Below.setCell (Below.setCell (hg.out.trans hgr) (p := ⟨w1.heap.size, 0, none⟩) (Nat.le_of_lt hlt) (.int .u64 (n64 (round st y).1))) (p := ⟨w1.heap.size, 1, none⟩) (Nat.le_of_lt hlt) (.int .u64 (n64 (round st y).2)))
            have q2 : (w2.setCell ⟨w1.heap.size, 0, none⟩ (.int .u64 (n64 (round st y).1))).frozen? ⟨w1.heap.size, 1, none⟩ = false := (hb2.set_ 0 _).frozen 1
            have q3 : w2.cell? ⟨w1.heap.size, 0, none⟩ = some (.int .u64 (n64 st.1)) := hb2.cell 0
            have q4 : (w2.setCell ⟨w1.heap.size, 0, none⟩ (.int .u64 (n64 (round st y).1))).cell? ⟨w1.heap.size, 1, none⟩ = some (.int .u64 (n64 st.2)) := (hb2.set_ 0 _).cell 1
            clear hb2 hgr hg hbr hbs c0 c1 hrr
            go_wp2
            go_roundw
            case rel => exact ⟨a + 8, round st y, by omega, by go_num, hg3.out, hb4.out, hb3.out, hel⟩
            case measure => simp [intOf]; omega
    · have hfin : Hid (of l = closed st (UInt64.ofNat s.size)) := by
        have h1 := he.out
        rw [eights_none (by rw [List.length_drop, ← hsz'.out]; omega)] at h1
        rw [of_eights, ← h1, hsz'.out]
        exact Lib.hid rfl
      clear he ha
      have c0 := hbs.out.cell 0
      have c1 := hbs.out.cell 1
      obtain ⟨s1, hs1⟩ : ∃ t, t = round st (UInt64.ofNat s.size) := ⟨_, rfl⟩
      have hn : Hid (∀ w', Calls Try.prog 54 #[sumV st, .int .u64 (n64 (UInt64.ofNat s.size))] w' fun e w'' => e = .returned (sumV s1) ∧ Gr w' w'') := Lib.hid (fun w' => by have h := refRound_any st (UInt64.ofNat s.size) w'; rw [← hs1] at h; exact h)
      replace hs1 := Lib.hid hs1
      go_wp2_with fail
      refine (hn.out _).mono ?_
      rintro e v1 ⟨rfl, hgr⟩
      clear hn
      clear c0 c1
      obtain ⟨q0, q1, q2, q3, hb3⟩ := (hbs.out.below hgr hbs.out.lt).pair (.int .u64 (n64 s1.1)) (.int .u64 (n64 s1.2))
      replace hbr := Lib.hid (((hbr.out.below hgr hbr.out.lt).far (p := ⟨w1.heap.size, 0, none⟩) (by show w.heap.size ≠ w1.heap.size; omega) (.int .u64 (n64 s1.1))).far (p := ⟨w1.heap.size, 1, none⟩) (by show w.heap.size ≠ w1.heap.size; omega) (.int .u64 (n64 s1.2)))
      replace hg := Lib.hid (Below.setCell (Below.setCell (Gr.trans hg.out hgr) (p := ⟨w1.heap.size, 0, none⟩) (Nat.le_of_lt hlt) (.int .u64 (n64 s1.1))) (p := ⟨w1.heap.size, 1, none⟩) (Nat.le_of_lt hlt) (.int .u64 (n64 s1.2)))
      clear hgr hbs
      have hbs := Lib.hid hb3
      clear hb3
      have c0 := hbs.out.cell 0
      have c1 := hbs.out.cell 1
      obtain ⟨s2, hs2⟩ : ∃ t, t = round s1 18446744073709551615 := ⟨_, rfl⟩
      have hn : Hid (∀ w', Calls Try.prog 54 #[sumV s1, .int .u64 (n64 18446744073709551615)] w' fun e w'' => e = .returned (sumV s2) ∧ Gr w' w'') := Lib.hid (fun w' => by have h := refRound_any s1 18446744073709551615 w'; rw [← hs2] at h; exact h)
      replace hs2 := Lib.hid hs2
      go_wp2_with fail
      refine (hn.out _).mono ?_
      rintro e v2 ⟨rfl, hgr⟩
      clear hn
      clear c0 c1
      obtain ⟨q0, q1, q2, q3, hb3⟩ := (hbs.out.below hgr hbs.out.lt).pair (.int .u64 (n64 s2.1)) (.int .u64 (n64 s2.2))
      replace hbr := Lib.hid (((hbr.out.below hgr hbr.out.lt).far (p := ⟨w1.heap.size, 0, none⟩) (by show w.heap.size ≠ w1.heap.size; omega) (.int .u64 (n64 s2.1))).far (p := ⟨w1.heap.size, 1, none⟩) (by show w.heap.size ≠ w1.heap.size; omega) (.int .u64 (n64 s2.2)))
      replace hg := Lib.hid (Below.setCell (Below.setCell (Gr.trans hg.out hgr) (p := ⟨w1.heap.size, 0, none⟩) (Nat.le_of_lt hlt) (.int .u64 (n64 s2.1))) (p := ⟨w1.heap.size, 1, none⟩) (Nat.le_of_lt hlt) (.int .u64 (n64 s2.2)))
      clear hgr hbs
      have hbs := Lib.hid hb3
      clear hb3
      have c0 := hbs.out.cell 0
      have c1 := hbs.out.cell 1
      obtain ⟨s3, hs3⟩ : ∃ t, t = round s2 0 := ⟨_, rfl⟩
      have hn : Hid (∀ w', Calls Try.prog 54 #[sumV s2, .int .u64 (n64 0)] w' fun e w'' => e = .returned (sumV s3) ∧ Gr w' w'') := Lib.hid (fun w' => by have h := refRound_any s2 0 w'; rw [← hs3] at h; exact h)
      replace hs3 := Lib.hid hs3
      go_wp2_with fail
      refine (hn.out _).mono ?_
      rintro e v3 ⟨rfl, hgr⟩
      clear hn
      clear c0 c1
      replace hg := Lib.hid (Gr.trans hg.out hgr)
      replace hbr := Lib.hid (hbr.out.below hgr hbr.out.lt)
      clear hgr hbs q0 q1 q2 q3
      obtain ⟨s4, hs4⟩ : ∃ t, t = round s3 0 := ⟨_, rfl⟩
      have hn : Hid (∀ w', Calls Try.prog 54 #[sumV s3, .int .u64 (n64 0)] w' fun e w'' => e = .returned (sumV s4) ∧ Gr w' w'') := Lib.hid (fun w' => by have h := refRound_any s3 0 w'; rw [← hs4] at h; exact h)
      replace hs4 := Lib.hid hs4
      go_wp2_with fail
      refine (hn.out _).mono ?_
      rintro e v4 ⟨rfl, hgr⟩
      clear hn
      obtain ⟨q0, q1, q2, q3, hb3⟩ := (hbr.out.below hgr hbr.out.lt).pair (.int .u64 (n64 s4.1)) (.int .u64 (n64 s4.2))
      have z0 := hb3.cell 0
      have z1 := hb3.cell 1
      replace hg := Lib.hid (Below.setCell (Below.setCell (Gr.trans hg.out hgr) (p := ⟨w.heap.size, 0, none⟩) (Nat.le_refl _) (.int .u64 (n64 s4.1))) (p := ⟨w.heap.size, 1, none⟩) (Nat.le_refl _) (.int .u64 (n64 s4.2)))
      clear hgr hbr hb3
      go_wp2
      refine bodyPost_ret (v := sumV s4) (by simp [results, Try.results32, go_sem, z0, z1]) rfl ⟨?_, hg.out⟩
      rw [hfin.out, hs4.out, hs3.out, hs2.out, hs1.out]
      rfl
end Mix
end Go.Proofs.Ytcibngbgcnnjnaa

