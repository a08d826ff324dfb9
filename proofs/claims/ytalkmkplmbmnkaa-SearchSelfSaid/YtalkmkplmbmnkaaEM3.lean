/- Texts that the law rests on, merged. No condition. -/
import Derived.Test.YtalkmkplmbmnkaaEM1
import Derived.Test.YtalkmkplmbmnkaaEM2
import Derived.Test.YtalkmkplmbmnkaaChecked
import Derived.IntWalk
import Derived.BigQuiet
import Derived.Maps.OwnRows
import Derived.Maps.OwnOps
import Derived.Maps.Views
import Derived.RangeFuncNested
import Derived.RangeFuncBound
import Derived.RangeFuncCalls
import Derived.RangeFuncLeaves
import Derived.Shelf.Abstract
import Derived.Shelf.RegionOpen
import Derived.WalkKit
import Derived.OwnWalkIn
import Derived.TacticsInMore
import Derived.LoopNIn
import Derived.LoopIn
set_option linter.unusedVariables false
set_option linter.unusedSimpArgs false
namespace Go.Proofs.Ytalkmkplmbmnkaa
open Go Go.RowKit W
namespace Mix
theorem take8_step {l : List UInt8} {at_ k : Nat} (h : at_ + k < l.length) : (l.drop at_).take (k + 1) = (l.drop at_).take k ++ [l[at_ + k]] := by
  have h' : k < (l.drop at_).length := by rw [List.length_drop]; omega
  rw [List.take_succ_eq_append_getElem h']
  simp
theorem word_take_end {l : List UInt8} {at_ k : Nat} (hk : k ≤ 8) (hl : at_ + k ≤ l.length) (h : ¬ (k < 8 ∧ at_ + k < l.length)) : (l.drop at_).take k = (l.drop at_).take 8 := by
  by_cases h8 : k = 8
  · rw [h8]
  · have : k = l.length - at_ := by omega
    rw [this, List.take_of_length_le (by rw [List.length_drop]; omega), List.take_of_length_le (by rw [List.length_drop]; omega)]
set_option maxRecDepth 100000 in
set_option maxHeartbeats 2000000 in
theorem refOf_any (l : List UInt8) (w : World) (hs : l.length ≤ 1099511627776) : Calls Try.prog 32 #[str l] w fun e' w' => e' = .returned (sumV (of l)) ∧ Gr w w' := by
  obtain ⟨s, hse⟩ : ∃ s : ByteArray, s = ⟨l.toArray⟩ := ⟨_, rfl⟩
  have hsz : s.size = l.length := by subst hse; simp [ByteArray.size]
  have hget : ∀ k (h : k < s.size) (h' : k < l.length), s[k] = l[k] := by subst hse; exact fun k h h' => rfl
  show Calls _ _ #[.string ⟨l.toArray⟩] _ _
  rw [← hse]
  have hs' : s.size ≤ 1099511627776 := by omega
  have hsz' := Lib.hid hsz
  have hget' := Lib.hid hget
  clear hsz hse hget
  have hst := Lib.hid (refStart_any (w.alloc (.cells #[.int .u64 0, .int .u64 0] 34)))
  have hb0 := Blk.new w 34 #[.int .u64 0, .int .u64 0]
  have hg0 := (Gr.refl w).alloc (.cells #[.int .u64 0, .int .u64 0] 34)
  replace hb0 := Lib.hid hb0
  replace hg0 := Lib.hid hg0
  go_enter Try.func32, Try.ntmps32
  go_wp2_with fail
  refine hst.out.mono ?_
  rintro e w1 ⟨rfl, hgr⟩
  have hb0 := Lib.hid ((hb0.out.below hgr hb0.out.lt).alloc (.cells #[.int .u64 (n64 start.1), .int .u64 (n64 start.2)] 34))
  have hb1 := Lib.hid (Blk.new w1 34 #[.int .u64 (n64 start.1), .int .u64 (n64 start.2)])
  have hlt : w.heap.size < w1.heap.size := (hb0.out.lt |> fun h => by have := hgr.size; rw [World.size_alloc] at this; omega)
  have hg0 := Lib.hid ((hg0.out.trans hgr).alloc (.cells #[.int .u64 (n64 start.1), .int .u64 (n64 start.2)] 34))
  clear hgr hst
  go_wp2_with fail
  go_loopw [4] (fun i wr => ∃ (k : Nat) (st : St), k ≤ s.size + 7 ∧ i = .int .i64 k ∧ Gr w wr ∧ Blk wr w.heap.size 34 #[.int .u64 0, .int .u64 0] ∧ Blk wr w1.heap.size 34 #[.int .u64 (n64 st.1), .int .u64 (n64 st.2)] ∧ Hid (eights st (l.drop k) = eights start l)) (fun i _ => s.size + 7 - (intOf i).toNat)
  case atStart => exact ⟨0, start, Nat.zero_le _, rfl, hg0.out, hb0.out, hb1.out, Lib.hid rfl⟩
  case round =>
    obtain ⟨a, st, ha, rfl, hg, hbr, hbs, he⟩ := hrel
    clear hb0 hb1 hg0
    replace hg := Lib.hid hg
    replace hbr := Lib.hid hbr
    replace hbs := Lib.hid hbs
    by_cases h : a < s.size
    · go_wp2
      go_loop [5, 6, 7] (fun x u i => ∃ (k : Nat) (y z : UInt64), k ≤ 8 ∧ a + k ≤ s.size ∧ x = .int .u64 (n64 y) ∧ u = .int .u64 (n64 z) ∧ i = .int .i64 ((a + k : Nat) : Int) ∧ Hid (y = word ((l.drop a).take k) ∧ z = UInt64.ofNat (256 ^ k))) (fun _ _ i => a + 8 - (intOf i).toNat)
      case atStart => exact ⟨0, 0, 1, by omega, by omega, rfl, rfl, rfl, Lib.hid ⟨rfl, rfl⟩⟩
      case round =>
        obtain ⟨k, y, z, hk, hak, rfl, rfl, rfl, hyz⟩ := hrel
        by_cases hc : k < 8 ∧ a + k < s.size
        · obtain ⟨hk8, hks⟩ := hc
          have hks' : a + k < l.length := by rw [← hsz'.out]; exact hks
          have hgt := hget'.out (a + k) hks hks'
          have hnew : Hid (y + z * s[a + k].toUInt64 = word ((l.drop a).take (k + 1)) ∧ z * 256 = UInt64.ofNat (256 ^ (k + 1))) := by
            obtain ⟨h1, h2⟩ := hyz.out
            have hlen : ((l.drop a).take k).length = k := by simp; omega
            have h3 := word_add ((l.drop a).take k) l[a + k]
            rw [hlen] at h3
            refine Lib.hid ⟨?_, ?_⟩
            · rw [h1, h2, hgt, take8_step hks', ← h3]
            · rw [h2, unit_step]
          clear hgt hyz
          go_wp2
          go_round
          case rel => exact ⟨k + 1, _, _, by omega, by omega, rfl, rfl, by go_num, hnew⟩
          case measure => simp [intOf]; omega
        · have hw8 : Hid (y = word ((l.drop a).take 8)) := by
            obtain ⟨h1, h2⟩ := hyz.out
            rw [word_take_end hk (by rw [← hsz'.out]; exact hak) (by rw [← hsz'.out]; exact hc)] at h1
            exact Lib.hid h1
          clear hyz
          have hel : Hid (eights (round st y) (l.drop (a + 8)) = eights start l) := by
            have h1 := he.out
            rw [eights_some (by rw [List.length_drop, ← hsz'.out]; omega), List.drop_drop, ← hw8.out] at h1
            exact Lib.hid h1
          have hrr := Lib.hid (refRound_any st y wr)
          have c0 := hbs.out.cell 0
          have c1 := hbs.out.cell 1
          clear he hw8
          by_cases hk8 : k < 8
          · have hks : ¬ a + k < s.size := fun h => hc ⟨hk8, h⟩
            clear hc
            go_wp2_with fail
            refine hrr.out.mono ?_
            rintro e w2 ⟨rfl, hgr⟩
            have hb2 := hbs.out.below hgr hbs.out.lt
            have q0 := hb2.frozen 0
            have q1 := hb2.frozen 1
            have hb3 := Lib.hid ((hb2.set_ 0 (.int .u64 (n64 (round st y).1))).set_ 1 (.int .u64 (n64 (round st y).2)))
            have hb4 := Lib.hid (((hbr.out.below hgr hbr.out.lt).far (p := ⟨w1.heap.size, 0, none⟩) (by show w.heap.size ≠ w1.heap.size; omega) (.int .u64 (n64 (round st y).1))).far (p := ⟨w1.heap.size, 1, none⟩) (by show w.heap.size ≠ w1.heap.size; omega) (.int .u64 (n64 (round st y).2)))
            have hg3 := Lib.hid (Below.setCell (Below.setCell (hg.out.trans hgr) (p := ⟨w1.heap.size, 0, none⟩) (Nat.le_of_lt hlt) (.int .u64 (n64 (round st y).1))) (p := ⟨w1.heap.size, 1, none⟩) (Nat.le_of_lt hlt) (.int .u64 (n64 (round st y).2)))
            have q2 : (w2.setCell ⟨w1.heap.size, 0, none⟩ (.int .u64 (n64 (round st y).1))).frozen? ⟨w1.heap.size, 1, none⟩ = false := (hb2.set_ 0 _).frozen 1
            have q3 : w2.cell? ⟨w1.heap.size, 0, none⟩ = some (.int .u64 (n64 st.1)) := hb2.cell 0
            have q4 : (w2.setCell ⟨w1.heap.size, 0, none⟩ (.int .u64 (n64 (round st y).1))).cell? ⟨w1.heap.size, 1, none⟩ = some (.int .u64 (n64 st.2)) := (hb2.set_ 0 _).cell 1
            clear hb2 hgr hg hbr hbs c0 c1 hrr
            go_wp2
            go_roundw
            case rel => exact ⟨a + 8, round st y, by omega, by go_num, hg3.out, hb4.out, hb3.out, hel⟩
            case measure => simp [intOf]; omega
          · obtain rfl : k = 8 := by omega
            clear hc
            go_wp2_with fail
            refine hrr.out.mono ?_
            rintro e w2 ⟨rfl, hgr⟩
            have hb2 := hbs.out.below hgr hbs.out.lt
            have q0 := hb2.frozen 0
            have q1 := hb2.frozen 1
            have hb3 := Lib.hid ((hb2.set_ 0 (.int .u64 (n64 (round st y).1))).set_ 1 (.int .u64 (n64 (round st y).2)))
            have hb4 := Lib.hid (((hbr.out.below hgr hbr.out.lt).far (p := ⟨w1.heap.size, 0, none⟩) (by show w.heap.size ≠ w1.heap.size; omega) (.int .u64 (n64 (round st y).1))).far (p := ⟨w1.heap.size, 1, none⟩) (by show w.heap.size ≠ w1.heap.size; omega) (.int .u64 (n64 (round st y).2)))
            have hg3 := Lib.hid (Below.setCell (Below.setCell (hg.out.trans hgr) (p := ⟨w1.heap.size, 0, none⟩) (Nat.le_of_lt hlt) (.int .u64 (n64 (round st y).1))) (p := ⟨w1.heap.size, 1, none⟩) (Nat.le_of_lt hlt) (.int .u64 (n64 (round st y).2)))
            have q2 : (w2.setCell ⟨w1.heap.size, 0, none⟩ (.int .u64 (n64 (round st y).1))).frozen? ⟨w1.heap.size, 1, none⟩ = false := (hb2.set_ 0 _).frozen 1
            have q3 : w2.cell? ⟨w1.heap.size, 0, none⟩ = some (.int .u64 (n64 st.1)) := hb2.cell 0
            have q4 : (w2.setCell ⟨w1.heap.size, 0, none⟩ (.int .u64 (n64 (round st y).1))).cell? ⟨w1.heap.size, 1, none⟩ = some (.int .u64 (n64 st.2)) := (hb2.set_ 0 _).cell 1
            clear hb2 hgr hg hbr hbs c0 c1 hrr
            go_wp2
            go_roundw
            case rel => exact ⟨a + 8, round st y, by omega, by go_num, hg3.out, hb4.out, hb3.out, hel⟩
            case measure => simp [intOf]; omega
    · have hfin : Hid (of l = closed st (UInt64.ofNat s.size)) := by
        have h1 := he.out
        rw [eights_none (by rw [List.length_drop, ← hsz'.out]; omega)] at h1
        rw [of_eights, ← h1, hsz'.out]
        exact Lib.hid rfl
      clear he ha
      have c0 := hbs.out.cell 0
      have c1 := hbs.out.cell 1
      obtain ⟨s1, hs1⟩ : ∃ t, t = round st (UInt64.ofNat s.size) := ⟨_, rfl⟩
      have hn : Hid (∀ w', Calls Try.prog 45 #[sumV st, .int .u64 (n64 (UInt64.ofNat s.size))] w' fun e w'' => e = .returned (sumV s1) ∧ Gr w' w'') := Lib.hid (fun w' => by have h := refRound_any st (UInt64.ofNat s.size) w'; rw [← hs1] at h; exact h)
      replace hs1 := Lib.hid hs1
      go_wp2_with fail
      refine (hn.out _).mono ?_
      rintro e v1 ⟨rfl, hgr⟩
      clear hn
      clear c0 c1
      obtain ⟨q0, q1, q2, q3, hb3⟩ := (hbs.out.below hgr hbs.out.lt).pair (.int .u64 (n64 s1.1)) (.int .u64 (n64 s1.2))
      replace hbr := Lib.hid (((hbr.out.below hgr hbr.out.lt).far (p := ⟨w1.heap.size, 0, none⟩) (by show w.heap.size ≠ w1.heap.size; omega) (.int .u64 (n64 s1.1))).far (p := ⟨w1.heap.size, 1, none⟩) (by show w.heap.size ≠ w1.heap.size; omega) (.int .u64 (n64 s1.2)))
      replace hg := Lib.hid (Below.setCell (Below.setCell (Gr.trans hg.out hgr) (p := ⟨w1.heap.size, 0, none⟩) (Nat.le_of_lt hlt) (.int .u64 (n64 s1.1))) (p := ⟨w1.heap.size, 1, none⟩) (Nat.le_of_lt hlt) (.int .u64 (n64 s1.2)))
      clear hgr hbs
      have hbs := Lib.hid hb3
      clear hb3
      have c0 := hbs.out.cell 0
      have c1 := hbs.out.cell 1
      obtain ⟨s2, hs2⟩ : ∃ t, t = round s1 18446744073709551615 := ⟨_, rfl⟩
      have hn : Hid (∀ w', Calls Try.prog 45 #[sumV s1, .int .u64 (n64 18446744073709551615)] w' fun e w'' => e = .returned (sumV s2) ∧ Gr w' w'') := Lib.hid (fun w' => by have h := refRound_any s1 18446744073709551615 w'; rw [← hs2] at h; exact h)
      replace hs2 := Lib.hid hs2
      go_wp2_with fail
      refine (hn.out _).mono ?_
      rintro e v2 ⟨rfl, hgr⟩
      clear hn
      clear c0 c1
      obtain ⟨q0, q1, q2, q3, hb3⟩ := (hbs.out.below hgr hbs.out.lt).pair (.int .u64 (n64 s2.1)) (.int .u64 (n64 s2.2))
      replace hbr := Lib.hid (((hbr.out.below hgr hbr.out.lt).far (p := ⟨w1.heap.size, 0, none⟩) (by show w.heap.size ≠ w1.heap.size; omega) (.int .u64 (n64 s2.1))).far (p := ⟨w1.heap.size, 1, none⟩) (by show w.heap.size ≠ w1.heap.size; omega) (.int .u64 (n64 s2.2)))
      replace hg := Lib.hid (Below.setCell (Below.setCell (Gr.trans hg.out hgr) (p := ⟨w1.heap.size, 0, none⟩) (Nat.le_of_lt hlt) (.int .u64 (n64 s2.1))) (p := ⟨w1.heap.size, 1, none⟩) (Nat.le_of_lt hlt) (.int .u64 (n64 s2.2)))
      clear hgr hbs
      have hbs := Lib.hid hb3
      clear hb3
      have c0 := hbs.out.cell 0
      have c1 := hbs.out.cell 1
      obtain ⟨s3, hs3⟩ : ∃ t, t = round s2 0 := ⟨_, rfl⟩
      have hn : Hid (∀ w', Calls Try.prog 45 #[sumV s2, .int .u64 (n64 0)] w' fun e w'' => e = .returned (sumV s3) ∧ Gr w' w'') := Lib.hid (fun w' => by have h := refRound_any s2 0 w'; rw [← hs3] at h; exact h)
      replace hs3 := Lib.hid hs3
      go_wp2_with fail
      refine (hn.out _).mono ?_
      rintro e v3 ⟨rfl, hgr⟩
      clear hn
      clear c0 c1
      replace hg := Lib.hid (Gr.trans hg.out hgr)
      replace hbr := Lib.hid (hbr.out.below hgr hbr.out.lt)
      clear hgr hbs q0 q1 q2 q3
      obtain ⟨s4, hs4⟩ : ∃ t, t = round s3 0 := ⟨_, rfl⟩
      have hn : Hid (∀ w', Calls Try.prog 45 #[sumV s3, .int .u64 (n64 0)] w' fun e w'' => e = .returned (sumV s4) ∧ Gr w' w'') := Lib.hid (fun w' => by have h := refRound_any s3 0 w'; rw [← hs4] at h; exact h)
      replace hs4 := Lib.hid hs4
      go_wp2_with fail
      refine (hn.out _).mono ?_
      rintro e v4 ⟨rfl, hgr⟩
      clear hn
      obtain ⟨q0, q1, q2, q3, hb3⟩ := (hbr.out.below hgr hbr.out.lt).pair (.int .u64 (n64 s4.1)) (.int .u64 (n64 s4.2))
      have z0 := hb3.cell 0
      have z1 := hb3.cell 1
      replace hg := Lib.hid (Below.setCell (Below.setCell (Gr.trans hg.out hgr) (p := ⟨w.heap.size, 0, none⟩) (Nat.le_refl _) (.int .u64 (n64 s4.1))) (p := ⟨w.heap.size, 1, none⟩) (Nat.le_refl _) (.int .u64 (n64 s4.2)))
      clear hgr hbr hb3
      go_wp2
      refine bodyPost_ret (v := sumV s4) (by simp [results, Try.results32, go_sem, z0, z1]) rfl ⟨?_, hg.out⟩
      rw [hfin.out, hs4.out, hs3.out, hs2.out, hs1.out]
      rfl
end Mix
end Go.Proofs.Ytalkmkplmbmnkaa
namespace Go.Proofs.Ytalkmkplmbmnkaa
open Go Go.RowKit W
namespace Sg
set_option maxRecDepth 100000 in
set_option maxHeartbeats 4000000 in
theorem signOf_any (A : Option Addr) (c : Nat) (l : List UInt8) (w : World) (hs : l.length ≤ 1000000) (hc : l.length ≤ c) (hr : RB w w.heap.size A l) :
    Calls Try.prog 24 #[.slice A l.length c] w fun e w' => e = .returned (sV (sign l)) ∧ Gr w w' := by
  have b0 := Lib.hid (Blk.new w 42 #[.int .u32 0, .int .u64 0, .int .u64 0])
  have g0 := Lib.hid ((Gr.refl w).alloc (.cells #[.int .u32 0, .int .u64 0, .int .u64 0] 42))
  have r0 := Lib.hid ((hr.alloc (Nat.le_refl _) (.cells #[.int .u32 0, .int .u64 0, .int .u64 0] 42)).more (by rw [World.size_alloc]; omega) : RB (w.alloc (.cells #[.int .u32 0, .int .u64 0, .int .u64 0] 42)) (w.alloc (.cells #[.int .u32 0, .int .u64 0, .int .u64 0] 42)).heap.size A l)
  clear hr
  obtain ⟨x, hx⟩ : ∃ x, sign l = x := ⟨_, rfl⟩
  rw [hx]
  obtain ⟨a, b, d⟩ := x
  have ha : Roll.of l = a := congrArg (·.1) hx
  have hb : Mix.of l = (b, d) := congrArg (·.2) hx
  have hro := Lib.hid (Roll.of_any A c _ l _ (by omega) (Nat.le_refl _) r0.out)
  rw [ha] at hro
  have hmi := Lib.hid (fun w (hr : RB w w.heap.size A l) => Mix.of_any A c l w (by omega) hc hr)
  rw [hb] at hmi
  clear hx ha hb
  go_enter Try.func24, Try.ntmps24
  go_wp2_with fail
  go_at_call 35
  refine hro.out.mono ?_
  rintro e w1 ⟨rfl, g1⟩
  have b1 := Lib.hid (b0.out.below g1 (by rw [World.size_alloc]; omega))
  have r1 := Lib.hid ((r0.out.below g1).more (Below.size g1))
  have G1 := Lib.hid (Gr.trans g0.out g1)
  clear b0 r0 g0 g1 hro
  go_wp2_with fail
  go_at_call 36
  refine (hmi.out _ r1.out).mono ?_
  rintro e w2 ⟨rfl, g2⟩
  have b2 := Lib.hid (b1.out.below g2 b1.out.lt)
  have G2 := Lib.hid (Gr.trans G1.out g2)
  clear b1 r1 G1 g2 hmi
  go_wp2_with (first
    | ((with_reducible refine wpList_isStore 42 (.tmp 2) (.tmp 7) rfl ?_); refine wpList_store_blk rfl 42 (.tmp 2) (.tmp 7) rfl w.heap.size #[.int .u32 (n32 a), .int .u64 (n64 b), .int .u64 (n64 d)] rfl rfl 42 #[.int .u32 0, .int .u64 0, .int .u64 0] b2.out (signInfo _ _ _) rfl (by simp [Value.oneCell']) ?_; intro w3 n3 k3 z3; have x0 := n3.cell 0; have x1 := n3.cell 1; have x2 := n3.cell 2; have G3 := Lib.hid (keep_new G2.out k3); clear G2 b2 n3 k3 z3))
  exact bodyPost_ret (v := sV (a, b, d)) (by simp [results, Try.results24, go_sem, x0, x1, x2]) rfl ⟨rfl, G3.out⟩
end Sg
end Go.Proofs.Ytalkmkplmbmnkaa
namespace Go.Proofs.Ytalkmkplmbmnkaa
open Go Go.RowKit W
namespace Bl
theorem byteType : ByteType Try.prog 5 := ⟨by kernel_rfl, by kernel_rfl⟩
theorem ret_int {a b : Int} (h : a = b) : Ending.returned (.int .i64 a) = .returned (.int .i64 b) := by rw [h]
theorem hold_any (size : Int) (w : World) : Calls Try.prog 22 #[.int .i64 size] w fun e w' => e = .returned (.int .i64 (hold size : Int)) ∧ w' = w := by
  obtain ⟨v, hv⟩ : ∃ v, v = (hold size : Int) := ⟨_, rfl⟩
  rw [← hv]
  unfold hold at hv
  replace hv := Lib.hid hv
  go_enter Try.func22, Try.ntmps22
  go_wp2
  all_goals
    go_ret
    refine ⟨ret_int ?_, rfl⟩
    rw [hv.out]
    repeat' split
    all_goals omega
theorem refHold_any (size : Int) (w : World) : Calls Try.prog 20 #[.int .i64 size] w fun e w' => e = .returned (.int .i64 (hold size : Int)) ∧ w' = w := by
  obtain ⟨v, hv⟩ : ∃ v, v = (hold size : Int) := ⟨_, rfl⟩
  rw [← hv]
  unfold hold at hv
  replace hv := Lib.hid hv
  go_enter Try.func20, Try.ntmps20
  go_wp2
  all_goals
    go_ret
    refine ⟨ret_int ?_, rfl⟩
    rw [hv.out]
    repeat' split
    all_goals omega
theorem count_any (n : Nat) (size : Int) (w : World) (hn : n ≤ 9223372036854775807) : Calls Try.prog 28 #[.int .i64 (n : Int), .int .i64 size] w fun e w' => e = .returned (.int .i64 (count n (hold size) : Int)) ∧ w' = w := by
  have hh := Lib.hid (hold_any size w)
  have hp := (hold_pos size).1
  have hp2 := (hold_pos size).2
  generalize hold size = h at *
  have hd : ((n : Int) / (h : Int)) = ((n / h : Nat) : Int) := (Int.natCast_ediv n h).symm
  have hr : ((n : Int) % (h : Int)) = ((n % h : Nat) : Int) := (Int.natCast_emod n h).symm
  have hdt : (n : Int).tdiv (h : Int) = ((n / h : Nat) : Int) := by rw [Int.tdiv_eq_ediv_of_nonneg (by omega)]; exact hd
  have hrt : (n : Int).tmod (h : Int) = ((n % h : Nat) : Int) := by rw [Int.tmod_eq_emod_of_nonneg (by omega)]; exact hr
  have hle : n / h ≤ n / 4 := Nat.div_le_div_left hp (by omega)
  have h0 : ¬ (h : Int) = 0 := by omega
  have hb : ((h : Int) == 0) = false := by simp; omega
  have hb1 : ((h : Int) == -1) = false := by simp
  by_cases hq : 0 < n % h
  · have hc : Hid (count n h = n / h + 1) := Lib.hid (by unfold count; rw [if_pos hq])
    have hq' : (0 : Int) < ((n % h : Nat) : Int) := by omega
    generalize n / h = a at *
    generalize n % h = b at *
    go_enter Try.func28, Try.ntmps28
    go_wp2_with fail
    go_at_call 22
    refine hh.out.mono ?_
    rintro e w1 ⟨rfl, rfl⟩
    clear hh
    go_wp2
    go_ret
    exact ⟨ret_int (by rw [hc.out]; omega), rfl⟩
  · have hc : Hid (count n h = n / h) := Lib.hid (by unfold count; rw [if_neg hq]; rfl)
    have hq' : ¬ (0 : Int) < ((n % h : Nat) : Int) := by omega
    generalize n / h = a at *
    generalize n % h = b at *
    go_enter Try.func28, Try.ntmps28
    go_wp2_with fail
    go_at_call 22
    refine hh.out.mono ?_
    rintro e w1 ⟨rfl, rfl⟩
    clear hh
    go_wp2
    go_ret
    exact ⟨ret_int (by rw [hc.out]), rfl⟩
end Bl
end Go.Proofs.Ytalkmkplmbmnkaa
namespace Go.Proofs.Ytalkmkplmbmnkaa
open Go Go.RowKit W Bl Vint
namespace Sg
theorem signB_le (x : Sign) : (signB x).length ≤ 26 := by
  have := num_length 9 x.1.toNat (Nat.lt_of_lt_of_le x.1.toNat_lt (by decide))
  simp only [signB, sum, be8, List.length_append, List.length_map, List.length_range]
  omega
theorem word_nat (a : UInt32) : (a.toUInt64).toNat = a.toNat := by simp
theorem run_eql_sign (T : TypeId) (hT : T = 42 ∨ T = 36) (s t : Sign) (x y : Operand) (w : World) :
    ((do eqGuard .eql T x y (sV s) (sV t); binOp .eql T (sV s) (sV t) : Sem Value).run Try.prog w = .ok (.bool (s == t)) w) ∧ ((do eqGuard .neq T x y (sV s) (sV t); binOp .neq T (sV s) (sV t) : Sem Value).run Try.prog w = .ok (.bool (s != t)) w) := by
  obtain ⟨f, m, d⟩ := s
  obtain ⟨f', m', d'⟩ := t
  constructor <;> rcases hT with rfl | rfl <;> by_cases h1 : f = f' <;> by_cases h2 : m = m' <;> by_cases h3 : d = d' <;> simp [go_sem, h1, h2, h3]
theorem hold_eq (z : Int) : (z == (hold z : Int)) = decide (4 ≤ z ∧ z ≤ 64) := by
  rw [Bool.eq_iff_iff, beq_iff_eq, decide_eq_true_eq]
  unfold hold
  repeat' split
  all_goals omega
theorem ret_bool {a b : Bool} (h : a = b) : Ending.returned (.bool a) = .returned (.bool b) := by rw [h]
set_option maxRecDepth 100000 in
set_option maxHeartbeats 8000000 in
theorem right_raw (z t : Int) (n : Nat) (x : Sign) (q : Bool) (hR : q = (decide (4 ≤ z ∧ z ≤ 64 ∧ n ≤ 4096 ∧ 0 ≤ t ∧ t < z) && (decide (0 < t) || x == zero))) (A : Option Addr) (c : Nat) (w : World) :
    Calls Try.prog 25 #[.agg (sigC z (.slice A n c) t x)] w fun e w' => e = .returned (.bool q) ∧ Gr w w' := by
  have bx := Lib.hid (Blk.new w 44 (sigC z (.slice A n c) t x))
  have g0 := Lib.hid ((Gr.refl w).alloc (.cells (sigC z (.slice A n c) t x) 44))
  have hho := Lib.hid (fun w => hold_any z w)
  have e0 := hold_eq z
  generalize hold z = h at *
  by_cases hp : 4 ≤ z ∧ z ≤ 64
  · rw [decide_eq_true hp] at e0
    by_cases e1 : (n : Int) ≤ 4096
    · by_cases e2 : 0 ≤ t
      · by_cases e3 : t < z
        · by_cases e4 : 0 < t
          · obtain rfl : q = true := by rw [hR]; simp; omega
            clear hR
            go_enter Try.func25, Try.ntmps25
            go_wp2
            refine region_grow (by kernel_rfl) (by kernel_rfl) ?_
            refine GW.p1 (.pointer (some ⟨w.heap.size, 0, none⟩)) rfl trivial (kn0 (t := 1) (c := .pointer (some ⟨w.heap.size, 0, none⟩)) (by kernel_rfl) rfl) (fun ρ w' hρ hg => by simp [execOp, hρ, go_sem]) ?_
            refine GW.p1 (.int .i64 z) rfl trivial (kn (t := 3) (j := 0) (by kernel_rfl)) (fun ρ w' hρ hg => by simp [execOp, hρ, go_sem, (hg.cell (p := ⟨w.heap.size, 0, none⟩) bx.out.lt).trans (bx.out.cell 0)]) ?_
            refine GW.p1 (.pointer (some ⟨w.heap.size, 0, none⟩)) rfl trivial (kn0 (t := 1) (c := .pointer (some ⟨w.heap.size, 0, none⟩)) (by kernel_rfl) rfl) (fun ρ w' hρ hg => by simp [execOp, hρ, go_sem]) ?_
            refine GW.p1 (.int .i64 z) rfl trivial (kn (t := 5) (j := 2) (by kernel_rfl)) (fun ρ w' hρ hg => by simp [execOp, hρ, go_sem, (hg.cell (p := ⟨w.heap.size, 0, none⟩) bx.out.lt).trans (bx.out.cell 0)]) ?_
            refine GW.call1 (eqv (.int .i64 (h : Int))) rfl trivial rfl Try.func22 (by kernel_rfl) (by kernel_rfl) (eqv_lasts _) (kn (t := 6) (j := 3) (by kernel_rfl)) (fun v w' hg hv => ?_) ?_
            · obtain rfl : v = _ := hv
              refine (hho.out w').mono ?_
              rintro e w9 ⟨rfl, rfl⟩
              exact ⟨_, rfl, rfl, Gr.refl _⟩
            refine GW.bin (.bool true) rfl trivial rfl (kn (t := 4) (j := 1) (by kernel_rfl)) (kn (t := 7) (j := 4) (by kernel_rfl)) (fun w' => by simp [go_sem, e0]) ?_
            refine GW.mv rfl trivial (.inl rfl) (kn (t := 8) (j := 5) (by kernel_rfl)) (eqv_lasts _) ?_
            refine GW.p1 (.pointer (some ⟨w.heap.size, 1, none⟩)) rfl ⟨9, by kernel_rfl, by kernel_rfl, fun _ _ h => h⟩ (kn0 (t := 1) (c := .pointer (some ⟨w.heap.size, 0, none⟩)) (by kernel_rfl) rfl) (fun ρ w' hρ hg => by simp [execOp, hρ, go_sem]) ?_
            refine GW.p1 (.slice A n c) rfl ⟨9, by kernel_rfl, by kernel_rfl, fun _ _ h => h⟩ (kn (t := 10) (j := 7) (by kernel_rfl)) (fun ρ w' hρ hg => by simp [execOp, hρ, go_sem, (hg.cell (p := ⟨w.heap.size, 1, none⟩) bx.out.lt).trans (bx.out.cell 1)]) ?_
            refine GW.lenV rfl ⟨9, by kernel_rfl, by kernel_rfl, fun _ _ h => h⟩ rfl Try.underlying41 (kn (t := 11) (j := 8) (by kernel_rfl)) ?_
            refine GW.bin (.bool true) rfl ⟨9, by kernel_rfl, by kernel_rfl, fun _ _ h => h⟩ rfl (kn (t := 12) (j := 9) (by kernel_rfl)) knc (fun w' => by simp [go_sem, e1]) ?_
            refine GW.pick (b := true) rfl trivial rfl (kn (t := 9) (j := 6) (by kernel_rfl)) (kn (t := 13) (j := 10) (by kernel_rfl)) (eqv_lasts _) ?_
            refine GW.mv rfl trivial (.inl rfl) (kn (t := 14) (j := 11) (by kernel_rfl)) (eqv_lasts _) ?_
            refine GW.p1 (.pointer (some ⟨w.heap.size, 2, none⟩)) rfl ⟨15, by kernel_rfl, by kernel_rfl, fun _ _ h => h⟩ (kn0 (t := 1) (c := .pointer (some ⟨w.heap.size, 0, none⟩)) (by kernel_rfl) rfl) (fun ρ w' hρ hg => by simp [execOp, hρ, go_sem]) ?_
            refine GW.p1 (.int .i64 t) rfl ⟨15, by kernel_rfl, by kernel_rfl, fun _ _ h => h⟩ (kn (t := 16) (j := 13) (by kernel_rfl)) (fun ρ w' hρ hg => by simp [execOp, hρ, go_sem, (hg.cell (p := ⟨w.heap.size, 2, none⟩) bx.out.lt).trans (bx.out.cell 2)]) ?_
            refine GW.bin (.bool true) rfl ⟨15, by kernel_rfl, by kernel_rfl, fun _ _ h => h⟩ rfl (kn (t := 17) (j := 14) (by kernel_rfl)) knc (fun w' => by simp [go_sem, e2]) ?_
            refine GW.pick (b := true) rfl trivial rfl (kn (t := 15) (j := 12) (by kernel_rfl)) (kn (t := 18) (j := 15) (by kernel_rfl)) (eqv_lasts _) ?_
            refine GW.mv rfl trivial (.inl rfl) (kn (t := 19) (j := 16) (by kernel_rfl)) (eqv_lasts _) ?_
            refine GW.p1 (.pointer (some ⟨w.heap.size, 2, none⟩)) rfl ⟨20, by kernel_rfl, by kernel_rfl, fun _ _ h => h⟩ (kn0 (t := 1) (c := .pointer (some ⟨w.heap.size, 0, none⟩)) (by kernel_rfl) rfl) (fun ρ w' hρ hg => by simp [execOp, hρ, go_sem]) ?_
            refine GW.p1 (.int .i64 t) rfl ⟨20, by kernel_rfl, by kernel_rfl, fun _ _ h => h⟩ (kn (t := 21) (j := 18) (by kernel_rfl)) (fun ρ w' hρ hg => by simp [execOp, hρ, go_sem, (hg.cell (p := ⟨w.heap.size, 2, none⟩) bx.out.lt).trans (bx.out.cell 2)]) ?_
            refine GW.p1 (.pointer (some ⟨w.heap.size, 0, none⟩)) rfl ⟨20, by kernel_rfl, by kernel_rfl, fun _ _ h => h⟩ (kn0 (t := 1) (c := .pointer (some ⟨w.heap.size, 0, none⟩)) (by kernel_rfl) rfl) (fun ρ w' hρ hg => by simp [execOp, hρ, go_sem]) ?_
            refine GW.p1 (.int .i64 z) rfl ⟨20, by kernel_rfl, by kernel_rfl, fun _ _ h => h⟩ (kn (t := 23) (j := 20) (by kernel_rfl)) (fun ρ w' hρ hg => by simp [execOp, hρ, go_sem, (hg.cell (p := ⟨w.heap.size, 0, none⟩) bx.out.lt).trans (bx.out.cell 0)]) ?_
            refine GW.bin (.bool true) rfl ⟨20, by kernel_rfl, by kernel_rfl, fun _ _ h => h⟩ rfl (kn (t := 22) (j := 19) (by kernel_rfl)) (kn (t := 24) (j := 21) (by kernel_rfl)) (fun w' => by simp [go_sem, e3]) ?_
            refine GW.pick (b := true) rfl trivial rfl (kn (t := 20) (j := 17) (by kernel_rfl)) (kn (t := 25) (j := 22) (by kernel_rfl)) (eqv_lasts _) ?_
            refine GW.mv rfl trivial (.inl rfl) (kn (t := 26) (j := 23) (by kernel_rfl)) (eqv_lasts _) ?_
            refine GW.p1 (.pointer (some ⟨w.heap.size, 2, none⟩)) rfl ⟨27, by kernel_rfl, by kernel_rfl, fun _ _ h => h⟩ (kn0 (t := 1) (c := .pointer (some ⟨w.heap.size, 0, none⟩)) (by kernel_rfl) rfl) (fun ρ w' hρ hg => by simp [execOp, hρ, go_sem]) ?_
            refine GW.p1 (.int .i64 t) rfl ⟨27, by kernel_rfl, by kernel_rfl, fun _ _ h => h⟩ (kn (t := 28) (j := 25) (by kernel_rfl)) (fun ρ w' hρ hg => by simp [execOp, hρ, go_sem, (hg.cell (p := ⟨w.heap.size, 2, none⟩) bx.out.lt).trans (bx.out.cell 2)]) ?_
            refine GW.bin (.bool true) rfl ⟨27, by kernel_rfl, by kernel_rfl, fun _ _ h => h⟩ rfl (kn (t := 29) (j := 26) (by kernel_rfl)) knc (fun w' => by simp [go_sem, e4]) ?_
            refine GW.mv rfl ⟨27, by kernel_rfl, by kernel_rfl, fun _ _ h => h⟩ (.inl rfl) (kn (t := 30) (j := 27) (by kernel_rfl)) (eqv_lasts _) ?_
            refine GW.skip rfl rfl (d := 31) (by kernel_rfl) (by kernel_rfl) (fun _ _ h => .inl h) ?_
            refine GW.skip rfl rfl (d := 31) (by kernel_rfl) (by kernel_rfl) (fun _ _ h => .inl h) ?_
            refine GW.skip rfl rfl (d := 31) (by kernel_rfl) (by kernel_rfl) (fun _ _ h => .inl h) ?_
            refine GW.skip rfl rfl (d := 31) (by kernel_rfl) (by kernel_rfl) (fun _ _ h => .inl h) ?_
            refine GW.pick (b := true) rfl ⟨27, by kernel_rfl, by kernel_rfl, fun _ _ h => h⟩ rfl (kn (t := 31) (j := 28) (by kernel_rfl)) (knc) (eqv_lasts _) ?_
            refine GW.pick (b := true) rfl trivial rfl (kn (t := 27) (j := 24) (by kernel_rfl)) (kn (t := 36) (j := 33) (by kernel_rfl)) (eqv_lasts _) ?_
            refine GW.mv rfl trivial (.inr rfl) (kn (t := 37) (j := 34) (by kernel_rfl)) (eqv_lasts _) ?_
            refine GW.done (by simp) (by kernel_rfl) (fun w' hg_ => ?_)
            intro v0 _ v1 _ v2 _ v3 _ v4 _ v5 _ v6 _ v7 _ v8 _ v9 _ v10 _ v11 _ v12 _ v13 _ v14 _ v15 _ v16 _ v17 _ v18 _ v19 _ v20 _ v21 _ v22 _ v23 _ v24 _ v25 _ v26 _ v27 _ v28 _ v29 _ v30 _ v31 _ v32 _ v33 _ v34 _ v35 h35
            obtain rfl : v35 = (Value.bool true) := h35
            simp only [GFin, Act.put, List.setIfInBounds_toArray, List.set_cons_succ, List.set_cons_zero]
            go_wp2
            go_ret
            exact ⟨rfl, Gr.trans g0.out hg_⟩
          · obtain rfl : q = (x == zero) := by rw [hR]; simp [e4]; omega
            clear hR
            go_enter Try.func25, Try.ntmps25
            go_wp2
            refine region_grow (by kernel_rfl) (by kernel_rfl) ?_
            refine GW.p1 (.pointer (some ⟨w.heap.size, 0, none⟩)) rfl trivial (kn0 (t := 1) (c := .pointer (some ⟨w.heap.size, 0, none⟩)) (by kernel_rfl) rfl) (fun ρ w' hρ hg => by simp [execOp, hρ, go_sem]) ?_
            refine GW.p1 (.int .i64 z) rfl trivial (kn (t := 3) (j := 0) (by kernel_rfl)) (fun ρ w' hρ hg => by simp [execOp, hρ, go_sem, (hg.cell (p := ⟨w.heap.size, 0, none⟩) bx.out.lt).trans (bx.out.cell 0)]) ?_
            refine GW.p1 (.pointer (some ⟨w.heap.size, 0, none⟩)) rfl trivial (kn0 (t := 1) (c := .pointer (some ⟨w.heap.size, 0, none⟩)) (by kernel_rfl) rfl) (fun ρ w' hρ hg => by simp [execOp, hρ, go_sem]) ?_
            refine GW.p1 (.int .i64 z) rfl trivial (kn (t := 5) (j := 2) (by kernel_rfl)) (fun ρ w' hρ hg => by simp [execOp, hρ, go_sem, (hg.cell (p := ⟨w.heap.size, 0, none⟩) bx.out.lt).trans (bx.out.cell 0)]) ?_
            refine GW.call1 (eqv (.int .i64 (h : Int))) rfl trivial rfl Try.func22 (by kernel_rfl) (by kernel_rfl) (eqv_lasts _) (kn (t := 6) (j := 3) (by kernel_rfl)) (fun v w' hg hv => ?_) ?_
            · obtain rfl : v = _ := hv
              refine (hho.out w').mono ?_
              rintro e w9 ⟨rfl, rfl⟩
              exact ⟨_, rfl, rfl, Gr.refl _⟩
            refine GW.bin (.bool true) rfl trivial rfl (kn (t := 4) (j := 1) (by kernel_rfl)) (kn (t := 7) (j := 4) (by kernel_rfl)) (fun w' => by simp [go_sem, e0]) ?_
            refine GW.mv rfl trivial (.inl rfl) (kn (t := 8) (j := 5) (by kernel_rfl)) (eqv_lasts _) ?_
            refine GW.p1 (.pointer (some ⟨w.heap.size, 1, none⟩)) rfl ⟨9, by kernel_rfl, by kernel_rfl, fun _ _ h => h⟩ (kn0 (t := 1) (c := .pointer (some ⟨w.heap.size, 0, none⟩)) (by kernel_rfl) rfl) (fun ρ w' hρ hg => by simp [execOp, hρ, go_sem]) ?_
            refine GW.p1 (.slice A n c) rfl ⟨9, by kernel_rfl, by kernel_rfl, fun _ _ h => h⟩ (kn (t := 10) (j := 7) (by kernel_rfl)) (fun ρ w' hρ hg => by simp [execOp, hρ, go_sem, (hg.cell (p := ⟨w.heap.size, 1, none⟩) bx.out.lt).trans (bx.out.cell 1)]) ?_
            refine GW.lenV rfl ⟨9, by kernel_rfl, by kernel_rfl, fun _ _ h => h⟩ rfl Try.underlying41 (kn (t := 11) (j := 8) (by kernel_rfl)) ?_
            refine GW.bin (.bool true) rfl ⟨9, by kernel_rfl, by kernel_rfl, fun _ _ h => h⟩ rfl (kn (t := 12) (j := 9) (by kernel_rfl)) knc (fun w' => by simp [go_sem, e1]) ?_
            refine GW.pick (b := true) rfl trivial rfl (kn (t := 9) (j := 6) (by kernel_rfl)) (kn (t := 13) (j := 10) (by kernel_rfl)) (eqv_lasts _) ?_
            refine GW.mv rfl trivial (.inl rfl) (kn (t := 14) (j := 11) (by kernel_rfl)) (eqv_lasts _) ?_
            refine GW.p1 (.pointer (some ⟨w.heap.size, 2, none⟩)) rfl ⟨15, by kernel_rfl, by kernel_rfl, fun _ _ h => h⟩ (kn0 (t := 1) (c := .pointer (some ⟨w.heap.size, 0, none⟩)) (by kernel_rfl) rfl) (fun ρ w' hρ hg => by simp [execOp, hρ, go_sem]) ?_
            refine GW.p1 (.int .i64 t) rfl ⟨15, by kernel_rfl, by kernel_rfl, fun _ _ h => h⟩ (kn (t := 16) (j := 13) (by kernel_rfl)) (fun ρ w' hρ hg => by simp [execOp, hρ, go_sem, (hg.cell (p := ⟨w.heap.size, 2, none⟩) bx.out.lt).trans (bx.out.cell 2)]) ?_
            refine GW.bin (.bool true) rfl ⟨15, by kernel_rfl, by kernel_rfl, fun _ _ h => h⟩ rfl (kn (t := 17) (j := 14) (by kernel_rfl)) knc (fun w' => by simp [go_sem, e2]) ?_
            refine GW.pick (b := true) rfl trivial rfl (kn (t := 15) (j := 12) (by kernel_rfl)) (kn (t := 18) (j := 15) (by kernel_rfl)) (eqv_lasts _) ?_
            refine GW.mv rfl trivial (.inl rfl) (kn (t := 19) (j := 16) (by kernel_rfl)) (eqv_lasts _) ?_
            refine GW.p1 (.pointer (some ⟨w.heap.size, 2, none⟩)) rfl ⟨20, by kernel_rfl, by kernel_rfl, fun _ _ h => h⟩ (kn0 (t := 1) (c := .pointer (some ⟨w.heap.size, 0, none⟩)) (by kernel_rfl) rfl) (fun ρ w' hρ hg => by simp [execOp, hρ, go_sem]) ?_
            refine GW.p1 (.int .i64 t) rfl ⟨20, by kernel_rfl, by kernel_rfl, fun _ _ h => h⟩ (kn (t := 21) (j := 18) (by kernel_rfl)) (fun ρ w' hρ hg => by simp [execOp, hρ, go_sem, (hg.cell (p := ⟨w.heap.size, 2, none⟩) bx.out.lt).trans (bx.out.cell 2)]) ?_
            refine GW.p1 (.pointer (some ⟨w.heap.size, 0, none⟩)) rfl ⟨20, by kernel_rfl, by kernel_rfl, fun _ _ h => h⟩ (kn0 (t := 1) (c := .pointer (some ⟨w.heap.size, 0, none⟩)) (by kernel_rfl) rfl) (fun ρ w' hρ hg => by simp [execOp, hρ, go_sem]) ?_
            refine GW.p1 (.int .i64 z) rfl ⟨20, by kernel_rfl, by kernel_rfl, fun _ _ h => h⟩ (kn (t := 23) (j := 20) (by kernel_rfl)) (fun ρ w' hρ hg => by simp [execOp, hρ, go_sem, (hg.cell (p := ⟨w.heap.size, 0, none⟩) bx.out.lt).trans (bx.out.cell 0)]) ?_
            refine GW.bin (.bool true) rfl ⟨20, by kernel_rfl, by kernel_rfl, fun _ _ h => h⟩ rfl (kn (t := 22) (j := 19) (by kernel_rfl)) (kn (t := 24) (j := 21) (by kernel_rfl)) (fun w' => by simp [go_sem, e3]) ?_
            refine GW.pick (b := true) rfl trivial rfl (kn (t := 20) (j := 17) (by kernel_rfl)) (kn (t := 25) (j := 22) (by kernel_rfl)) (eqv_lasts _) ?_
            refine GW.mv rfl trivial (.inl rfl) (kn (t := 26) (j := 23) (by kernel_rfl)) (eqv_lasts _) ?_
            refine GW.p1 (.pointer (some ⟨w.heap.size, 2, none⟩)) rfl ⟨27, by kernel_rfl, by kernel_rfl, fun _ _ h => h⟩ (kn0 (t := 1) (c := .pointer (some ⟨w.heap.size, 0, none⟩)) (by kernel_rfl) rfl) (fun ρ w' hρ hg => by simp [execOp, hρ, go_sem]) ?_
            refine GW.p1 (.int .i64 t) rfl ⟨27, by kernel_rfl, by kernel_rfl, fun _ _ h => h⟩ (kn (t := 28) (j := 25) (by kernel_rfl)) (fun ρ w' hρ hg => by simp [execOp, hρ, go_sem, (hg.cell (p := ⟨w.heap.size, 2, none⟩) bx.out.lt).trans (bx.out.cell 2)]) ?_
            refine GW.bin (.bool false) rfl ⟨27, by kernel_rfl, by kernel_rfl, fun _ _ h => h⟩ rfl (kn (t := 29) (j := 26) (by kernel_rfl)) knc (fun w' => by simp [go_sem, e4]) ?_
            refine GW.mv rfl ⟨27, by kernel_rfl, by kernel_rfl, fun _ _ h => h⟩ (.inl rfl) (kn (t := 30) (j := 27) (by kernel_rfl)) (eqv_lasts _) ?_
            refine GW.p1 (.pointer (some ⟨w.heap.size, 3, none⟩)) rfl ⟨31, by kernel_rfl, by kernel_rfl, fun _ _ h => h⟩ (kn0 (t := 1) (c := .pointer (some ⟨w.heap.size, 0, none⟩)) (by kernel_rfl) rfl) (fun ρ w' hρ hg => by simp [execOp, hρ, go_sem]) ?_
            refine GW.p1 (sV x) rfl ⟨31, by kernel_rfl, by kernel_rfl, fun _ _ h => h⟩ (kn (t := 32) (j := 29) (by kernel_rfl)) (fun ρ w' hρ hg => by simp [execOp, hρ, go_sem, (hg.cell (p := ⟨w.heap.size, 3, none⟩) bx.out.lt).trans (bx.out.cell 3), (hg.cell (p := ⟨w.heap.size, 4, none⟩) bx.out.lt).trans (bx.out.cell 4), (hg.cell (p := ⟨w.heap.size, 5, none⟩) bx.out.lt).trans (bx.out.cell 5)]) ?_
            refine GW.build #[] (sV zero) rfl ⟨31, by kernel_rfl, by kernel_rfl, fun _ _ h => h⟩ rfl trivial (fun w => by kernel_rfl) ?_
            refine GW.bin (.bool (x == zero)) rfl ⟨31, by kernel_rfl, by kernel_rfl, fun _ _ h => h⟩ rfl (kn (t := 33) (j := 30) (by kernel_rfl)) (kn (t := 34) (j := 31) (by kernel_rfl)) (fun w' => (run_eql_sign _ (.inl rfl) x zero _ _ w').1) ?_
            refine GW.pick (b := false) rfl ⟨27, by kernel_rfl, by kernel_rfl, fun _ _ h => h⟩ rfl (kn (t := 31) (j := 28) (by kernel_rfl)) (kn (t := 35) (j := 32) (by kernel_rfl)) (eqv_lasts _) ?_
            refine GW.pick (b := true) rfl trivial rfl (kn (t := 27) (j := 24) (by kernel_rfl)) (kn (t := 36) (j := 33) (by kernel_rfl)) (eqv_lasts _) ?_
            refine GW.mv rfl trivial (.inr rfl) (kn (t := 37) (j := 34) (by kernel_rfl)) (eqv_lasts _) ?_
            refine GW.done (by simp) (by kernel_rfl) (fun w' hg_ => ?_)
            intro v0 _ v1 _ v2 _ v3 _ v4 _ v5 _ v6 _ v7 _ v8 _ v9 _ v10 _ v11 _ v12 _ v13 _ v14 _ v15 _ v16 _ v17 _ v18 _ v19 _ v20 _ v21 _ v22 _ v23 _ v24 _ v25 _ v26 _ v27 _ v28 _ v29 _ v30 _ v31 _ v32 _ v33 _ v34 _ v35 h35
            obtain rfl : v35 = (.bool (x == zero)) := h35
            simp only [GFin, Act.put, List.setIfInBounds_toArray, List.set_cons_succ, List.set_cons_zero]
            go_wp2
            go_ret
            exact ⟨rfl, Gr.trans g0.out hg_⟩
        · obtain rfl : q = false := by rw [hR]; simp; omega
          clear hR
          go_enter Try.func25, Try.ntmps25
          go_wp2
          refine region_grow (by kernel_rfl) (by kernel_rfl) ?_
          refine GW.p1 (.pointer (some ⟨w.heap.size, 0, none⟩)) rfl trivial (kn0 (t := 1) (c := .pointer (some ⟨w.heap.size, 0, none⟩)) (by kernel_rfl) rfl) (fun ρ w' hρ hg => by simp [execOp, hρ, go_sem]) ?_
          refine GW.p1 (.int .i64 z) rfl trivial (kn (t := 3) (j := 0) (by kernel_rfl)) (fun ρ w' hρ hg => by simp [execOp, hρ, go_sem, (hg.cell (p := ⟨w.heap.size, 0, none⟩) bx.out.lt).trans (bx.out.cell 0)]) ?_
          refine GW.p1 (.pointer (some ⟨w.heap.size, 0, none⟩)) rfl trivial (kn0 (t := 1) (c := .pointer (some ⟨w.heap.size, 0, none⟩)) (by kernel_rfl) rfl) (fun ρ w' hρ hg => by simp [execOp, hρ, go_sem]) ?_
          refine GW.p1 (.int .i64 z) rfl trivial (kn (t := 5) (j := 2) (by kernel_rfl)) (fun ρ w' hρ hg => by simp [execOp, hρ, go_sem, (hg.cell (p := ⟨w.heap.size, 0, none⟩) bx.out.lt).trans (bx.out.cell 0)]) ?_
          refine GW.call1 (eqv (.int .i64 (h : Int))) rfl trivial rfl Try.func22 (by kernel_rfl) (by kernel_rfl) (eqv_lasts _) (kn (t := 6) (j := 3) (by kernel_rfl)) (fun v w' hg hv => ?_) ?_
          · obtain rfl : v = _ := hv
            refine (hho.out w').mono ?_
            rintro e w9 ⟨rfl, rfl⟩
            exact ⟨_, rfl, rfl, Gr.refl _⟩
          refine GW.bin (.bool true) rfl trivial rfl (kn (t := 4) (j := 1) (by kernel_rfl)) (kn (t := 7) (j := 4) (by kernel_rfl)) (fun w' => by simp [go_sem, e0]) ?_
          refine GW.mv rfl trivial (.inl rfl) (kn (t := 8) (j := 5) (by kernel_rfl)) (eqv_lasts _) ?_
          refine GW.p1 (.pointer (some ⟨w.heap.size, 1, none⟩)) rfl ⟨9, by kernel_rfl, by kernel_rfl, fun _ _ h => h⟩ (kn0 (t := 1) (c := .pointer (some ⟨w.heap.size, 0, none⟩)) (by kernel_rfl) rfl) (fun ρ w' hρ hg => by simp [execOp, hρ, go_sem]) ?_
          refine GW.p1 (.slice A n c) rfl ⟨9, by kernel_rfl, by kernel_rfl, fun _ _ h => h⟩ (kn (t := 10) (j := 7) (by kernel_rfl)) (fun ρ w' hρ hg => by simp [execOp, hρ, go_sem, (hg.cell (p := ⟨w.heap.size, 1, none⟩) bx.out.lt).trans (bx.out.cell 1)]) ?_
          refine GW.lenV rfl ⟨9, by kernel_rfl, by kernel_rfl, fun _ _ h => h⟩ rfl Try.underlying41 (kn (t := 11) (j := 8) (by kernel_rfl)) ?_
          refine GW.bin (.bool true) rfl ⟨9, by kernel_rfl, by kernel_rfl, fun _ _ h => h⟩ rfl (kn (t := 12) (j := 9) (by kernel_rfl)) knc (fun w' => by simp [go_sem, e1]) ?_
          refine GW.pick (b := true) rfl trivial rfl (kn (t := 9) (j := 6) (by kernel_rfl)) (kn (t := 13) (j := 10) (by kernel_rfl)) (eqv_lasts _) ?_
          refine GW.mv rfl trivial (.inl rfl) (kn (t := 14) (j := 11) (by kernel_rfl)) (eqv_lasts _) ?_
          refine GW.p1 (.pointer (some ⟨w.heap.size, 2, none⟩)) rfl ⟨15, by kernel_rfl, by kernel_rfl, fun _ _ h => h⟩ (kn0 (t := 1) (c := .pointer (some ⟨w.heap.size, 0, none⟩)) (by kernel_rfl) rfl) (fun ρ w' hρ hg => by simp [execOp, hρ, go_sem]) ?_
          refine GW.p1 (.int .i64 t) rfl ⟨15, by kernel_rfl, by kernel_rfl, fun _ _ h => h⟩ (kn (t := 16) (j := 13) (by kernel_rfl)) (fun ρ w' hρ hg => by simp [execOp, hρ, go_sem, (hg.cell (p := ⟨w.heap.size, 2, none⟩) bx.out.lt).trans (bx.out.cell 2)]) ?_
          refine GW.bin (.bool true) rfl ⟨15, by kernel_rfl, by kernel_rfl, fun _ _ h => h⟩ rfl (kn (t := 17) (j := 14) (by kernel_rfl)) knc (fun w' => by simp [go_sem, e2]) ?_
          refine GW.pick (b := true) rfl trivial rfl (kn (t := 15) (j := 12) (by kernel_rfl)) (kn (t := 18) (j := 15) (by kernel_rfl)) (eqv_lasts _) ?_
          refine GW.mv rfl trivial (.inl rfl) (kn (t := 19) (j := 16) (by kernel_rfl)) (eqv_lasts _) ?_
          refine GW.p1 (.pointer (some ⟨w.heap.size, 2, none⟩)) rfl ⟨20, by kernel_rfl, by kernel_rfl, fun _ _ h => h⟩ (kn0 (t := 1) (c := .pointer (some ⟨w.heap.size, 0, none⟩)) (by kernel_rfl) rfl) (fun ρ w' hρ hg => by simp [execOp, hρ, go_sem]) ?_
          refine GW.p1 (.int .i64 t) rfl ⟨20, by kernel_rfl, by kernel_rfl, fun _ _ h => h⟩ (kn (t := 21) (j := 18) (by kernel_rfl)) (fun ρ w' hρ hg => by simp [execOp, hρ, go_sem, (hg.cell (p := ⟨w.heap.size, 2, none⟩) bx.out.lt).trans (bx.out.cell 2)]) ?_
          refine GW.p1 (.pointer (some ⟨w.heap.size, 0, none⟩)) rfl ⟨20, by kernel_rfl, by kernel_rfl, fun _ _ h => h⟩ (kn0 (t := 1) (c := .pointer (some ⟨w.heap.size, 0, none⟩)) (by kernel_rfl) rfl) (fun ρ w' hρ hg => by simp [execOp, hρ, go_sem]) ?_
          refine GW.p1 (.int .i64 z) rfl ⟨20, by kernel_rfl, by kernel_rfl, fun _ _ h => h⟩ (kn (t := 23) (j := 20) (by kernel_rfl)) (fun ρ w' hρ hg => by simp [execOp, hρ, go_sem, (hg.cell (p := ⟨w.heap.size, 0, none⟩) bx.out.lt).trans (bx.out.cell 0)]) ?_
          refine GW.bin (.bool false) rfl ⟨20, by kernel_rfl, by kernel_rfl, fun _ _ h => h⟩ rfl (kn (t := 22) (j := 19) (by kernel_rfl)) (kn (t := 24) (j := 21) (by kernel_rfl)) (fun w' => by simp [go_sem, e3]) ?_
          refine GW.pick (b := true) rfl trivial rfl (kn (t := 20) (j := 17) (by kernel_rfl)) (kn (t := 25) (j := 22) (by kernel_rfl)) (eqv_lasts _) ?_
          refine GW.mv rfl trivial (.inl rfl) (kn (t := 26) (j := 23) (by kernel_rfl)) (eqv_lasts _) ?_
          refine GW.skip rfl rfl (d := 27) (by kernel_rfl) (by kernel_rfl) (fun _ _ h => .inl h) ?_
          refine GW.skip rfl rfl (d := 27) (by kernel_rfl) (by kernel_rfl) (fun _ _ h => .inl h) ?_
          refine GW.skip rfl rfl (d := 27) (by kernel_rfl) (by kernel_rfl) (fun _ _ h => .inl h) ?_
          refine GW.skip rfl rfl (d := 27) (by kernel_rfl) (by kernel_rfl) (fun _ _ h => .inl h) ?_
          refine GW.skip rfl rfl (d := 31) (by kernel_rfl) (by kernel_rfl) (fun _ _ h => .inr h) ?_
          refine GW.skip rfl rfl (d := 31) (by kernel_rfl) (by kernel_rfl) (fun _ _ h => .inr h) ?_
          refine GW.skip rfl rfl (d := 31) (by kernel_rfl) (by kernel_rfl) (fun _ _ h => .inr h) ?_
          refine GW.skip rfl rfl (d := 31) (by kernel_rfl) (by kernel_rfl) (fun _ _ h => .inr h) ?_
          refine GW.skip rfl rfl (d := 27) (by kernel_rfl) (by kernel_rfl) (fun _ _ h => .inl h) ?_
          refine GW.pick (b := false) rfl trivial rfl (kn (t := 27) (j := 24) (by kernel_rfl)) (knc) (eqv_lasts _) ?_
          refine GW.mv rfl trivial (.inr rfl) (kn (t := 37) (j := 34) (by kernel_rfl)) (eqv_lasts _) ?_
          refine GW.done (by simp) (by kernel_rfl) (fun w' hg_ => ?_)
          intro v0 _ v1 _ v2 _ v3 _ v4 _ v5 _ v6 _ v7 _ v8 _ v9 _ v10 _ v11 _ v12 _ v13 _ v14 _ v15 _ v16 _ v17 _ v18 _ v19 _ v20 _ v21 _ v22 _ v23 _ v24 _ v25 _ v26 _ v27 _ v28 _ v29 _ v30 _ v31 _ v32 _ v33 _ v34 _ v35 h35
          obtain rfl : v35 = (Value.bool false) := h35
          simp only [GFin, Act.put, List.setIfInBounds_toArray, List.set_cons_succ, List.set_cons_zero]
          go_wp2
          go_ret
          exact ⟨rfl, Gr.trans g0.out hg_⟩
      · obtain rfl : q = false := by rw [hR]; simp; omega
        clear hR
        go_enter Try.func25, Try.ntmps25
        go_wp2
        refine region_grow (by kernel_rfl) (by kernel_rfl) ?_
        refine GW.p1 (.pointer (some ⟨w.heap.size, 0, none⟩)) rfl trivial (kn0 (t := 1) (c := .pointer (some ⟨w.heap.size, 0, none⟩)) (by kernel_rfl) rfl) (fun ρ w' hρ hg => by simp [execOp, hρ, go_sem]) ?_
        refine GW.p1 (.int .i64 z) rfl trivial (kn (t := 3) (j := 0) (by kernel_rfl)) (fun ρ w' hρ hg => by simp [execOp, hρ, go_sem, (hg.cell (p := ⟨w.heap.size, 0, none⟩) bx.out.lt).trans (bx.out.cell 0)]) ?_
        refine GW.p1 (.pointer (some ⟨w.heap.size, 0, none⟩)) rfl trivial (kn0 (t := 1) (c := .pointer (some ⟨w.heap.size, 0, none⟩)) (by kernel_rfl) rfl) (fun ρ w' hρ hg => by simp [execOp, hρ, go_sem]) ?_
        refine GW.p1 (.int .i64 z) rfl trivial (kn (t := 5) (j := 2) (by kernel_rfl)) (fun ρ w' hρ hg => by simp [execOp, hρ, go_sem, (hg.cell (p := ⟨w.heap.size, 0, none⟩) bx.out.lt).trans (bx.out.cell 0)]) ?_
        refine GW.call1 (eqv (.int .i64 (h : Int))) rfl trivial rfl Try.func22 (by kernel_rfl) (by kernel_rfl) (eqv_lasts _) (kn (t := 6) (j := 3) (by kernel_rfl)) (fun v w' hg hv => ?_) ?_
        · obtain rfl : v = _ := hv
          refine (hho.out w').mono ?_
          rintro e w9 ⟨rfl, rfl⟩
          exact ⟨_, rfl, rfl, Gr.refl _⟩
        refine GW.bin (.bool true) rfl trivial rfl (kn (t := 4) (j := 1) (by kernel_rfl)) (kn (t := 7) (j := 4) (by kernel_rfl)) (fun w' => by simp [go_sem, e0]) ?_
        refine GW.mv rfl trivial (.inl rfl) (kn (t := 8) (j := 5) (by kernel_rfl)) (eqv_lasts _) ?_
        refine GW.p1 (.pointer (some ⟨w.heap.size, 1, none⟩)) rfl ⟨9, by kernel_rfl, by kernel_rfl, fun _ _ h => h⟩ (kn0 (t := 1) (c := .pointer (some ⟨w.heap.size, 0, none⟩)) (by kernel_rfl) rfl) (fun ρ w' hρ hg => by simp [execOp, hρ, go_sem]) ?_
        refine GW.p1 (.slice A n c) rfl ⟨9, by kernel_rfl, by kernel_rfl, fun _ _ h => h⟩ (kn (t := 10) (j := 7) (by kernel_rfl)) (fun ρ w' hρ hg => by simp [execOp, hρ, go_sem, (hg.cell (p := ⟨w.heap.size, 1, none⟩) bx.out.lt).trans (bx.out.cell 1)]) ?_
        refine GW.lenV rfl ⟨9, by kernel_rfl, by kernel_rfl, fun _ _ h => h⟩ rfl Try.underlying41 (kn (t := 11) (j := 8) (by kernel_rfl)) ?_
        refine GW.bin (.bool true) rfl ⟨9, by kernel_rfl, by kernel_rfl, fun _ _ h => h⟩ rfl (kn (t := 12) (j := 9) (by kernel_rfl)) knc (fun w' => by simp [go_sem, e1]) ?_
        refine GW.pick (b := true) rfl trivial rfl (kn (t := 9) (j := 6) (by kernel_rfl)) (kn (t := 13) (j := 10) (by kernel_rfl)) (eqv_lasts _) ?_
        refine GW.mv rfl trivial (.inl rfl) (kn (t := 14) (j := 11) (by kernel_rfl)) (eqv_lasts _) ?_
        refine GW.p1 (.pointer (some ⟨w.heap.size, 2, none⟩)) rfl ⟨15, by kernel_rfl, by kernel_rfl, fun _ _ h => h⟩ (kn0 (t := 1) (c := .pointer (some ⟨w.heap.size, 0, none⟩)) (by kernel_rfl) rfl) (fun ρ w' hρ hg => by simp [execOp, hρ, go_sem]) ?_
        refine GW.p1 (.int .i64 t) rfl ⟨15, by kernel_rfl, by kernel_rfl, fun _ _ h => h⟩ (kn (t := 16) (j := 13) (by kernel_rfl)) (fun ρ w' hρ hg => by simp [execOp, hρ, go_sem, (hg.cell (p := ⟨w.heap.size, 2, none⟩) bx.out.lt).trans (bx.out.cell 2)]) ?_
        refine GW.bin (.bool false) rfl ⟨15, by kernel_rfl, by kernel_rfl, fun _ _ h => h⟩ rfl (kn (t := 17) (j := 14) (by kernel_rfl)) knc (fun w' => by simp [go_sem, e2]) ?_
        refine GW.pick (b := true) rfl trivial rfl (kn (t := 15) (j := 12) (by kernel_rfl)) (kn (t := 18) (j := 15) (by kernel_rfl)) (eqv_lasts _) ?_
        refine GW.mv rfl trivial (.inl rfl) (kn (t := 19) (j := 16) (by kernel_rfl)) (eqv_lasts _) ?_
        refine GW.skip rfl rfl (d := 20) (by kernel_rfl) (by kernel_rfl) (fun _ _ h => .inl h) ?_
        refine GW.skip rfl rfl (d := 20) (by kernel_rfl) (by kernel_rfl) (fun _ _ h => .inl h) ?_
        refine GW.skip rfl rfl (d := 20) (by kernel_rfl) (by kernel_rfl) (fun _ _ h => .inl h) ?_
        refine GW.skip rfl rfl (d := 20) (by kernel_rfl) (by kernel_rfl) (fun _ _ h => .inl h) ?_
        refine GW.skip rfl rfl (d := 20) (by kernel_rfl) (by kernel_rfl) (fun _ _ h => .inl h) ?_
        refine GW.pick (b := false) rfl trivial rfl (kn (t := 20) (j := 17) (by kernel_rfl)) (knc) (eqv_lasts _) ?_
        refine GW.mv rfl trivial (.inl rfl) (kn (t := 26) (j := 23) (by kernel_rfl)) (eqv_lasts _) ?_
        refine GW.skip rfl rfl (d := 27) (by kernel_rfl) (by kernel_rfl) (fun _ _ h => .inl h) ?_
        refine GW.skip rfl rfl (d := 27) (by kernel_rfl) (by kernel_rfl) (fun _ _ h => .inl h) ?_
        refine GW.skip rfl rfl (d := 27) (by kernel_rfl) (by kernel_rfl) (fun _ _ h => .inl h) ?_
        refine GW.skip rfl rfl (d := 27) (by kernel_rfl) (by kernel_rfl) (fun _ _ h => .inl h) ?_
        refine GW.skip rfl rfl (d := 31) (by kernel_rfl) (by kernel_rfl) (fun _ _ h => .inr h) ?_
        refine GW.skip rfl rfl (d := 31) (by kernel_rfl) (by kernel_rfl) (fun _ _ h => .inr h) ?_
        refine GW.skip rfl rfl (d := 31) (by kernel_rfl) (by kernel_rfl) (fun _ _ h => .inr h) ?_
        refine GW.skip rfl rfl (d := 31) (by kernel_rfl) (by kernel_rfl) (fun _ _ h => .inr h) ?_
        refine GW.skip rfl rfl (d := 27) (by kernel_rfl) (by kernel_rfl) (fun _ _ h => .inl h) ?_
        refine GW.pick (b := false) rfl trivial rfl (kn (t := 27) (j := 24) (by kernel_rfl)) (knc) (eqv_lasts _) ?_
        refine GW.mv rfl trivial (.inr rfl) (kn (t := 37) (j := 34) (by kernel_rfl)) (eqv_lasts _) ?_
        refine GW.done (by simp) (by kernel_rfl) (fun w' hg_ => ?_)
        intro v0 _ v1 _ v2 _ v3 _ v4 _ v5 _ v6 _ v7 _ v8 _ v9 _ v10 _ v11 _ v12 _ v13 _ v14 _ v15 _ v16 _ v17 _ v18 _ v19 _ v20 _ v21 _ v22 _ v23 _ v24 _ v25 _ v26 _ v27 _ v28 _ v29 _ v30 _ v31 _ v32 _ v33 _ v34 _ v35 h35
        obtain rfl : v35 = (Value.bool false) := h35
        simp only [GFin, Act.put, List.setIfInBounds_toArray, List.set_cons_succ, List.set_cons_zero]
        go_wp2
        go_ret
        exact ⟨rfl, Gr.trans g0.out hg_⟩
    · obtain rfl : q = false := by rw [hR]; simp; omega
      clear hR
      go_enter Try.func25, Try.ntmps25
      go_wp2
      refine region_grow (by kernel_rfl) (by kernel_rfl) ?_
      refine GW.p1 (.pointer (some ⟨w.heap.size, 0, none⟩)) rfl trivial (kn0 (t := 1) (c := .pointer (some ⟨w.heap.size, 0, none⟩)) (by kernel_rfl) rfl) (fun ρ w' hρ hg => by simp [execOp, hρ, go_sem]) ?_
      refine GW.p1 (.int .i64 z) rfl trivial (kn (t := 3) (j := 0) (by kernel_rfl)) (fun ρ w' hρ hg => by simp [execOp, hρ, go_sem, (hg.cell (p := ⟨w.heap.size, 0, none⟩) bx.out.lt).trans (bx.out.cell 0)]) ?_
      refine GW.p1 (.pointer (some ⟨w.heap.size, 0, none⟩)) rfl trivial (kn0 (t := 1) (c := .pointer (some ⟨w.heap.size, 0, none⟩)) (by kernel_rfl) rfl) (fun ρ w' hρ hg => by simp [execOp, hρ, go_sem]) ?_
      refine GW.p1 (.int .i64 z) rfl trivial (kn (t := 5) (j := 2) (by kernel_rfl)) (fun ρ w' hρ hg => by simp [execOp, hρ, go_sem, (hg.cell (p := ⟨w.heap.size, 0, none⟩) bx.out.lt).trans (bx.out.cell 0)]) ?_
      refine GW.call1 (eqv (.int .i64 (h : Int))) rfl trivial rfl Try.func22 (by kernel_rfl) (by kernel_rfl) (eqv_lasts _) (kn (t := 6) (j := 3) (by kernel_rfl)) (fun v w' hg hv => ?_) ?_
      · obtain rfl : v = _ := hv
        refine (hho.out w').mono ?_
        rintro e w9 ⟨rfl, rfl⟩
        exact ⟨_, rfl, rfl, Gr.refl _⟩
      refine GW.bin (.bool true) rfl trivial rfl (kn (t := 4) (j := 1) (by kernel_rfl)) (kn (t := 7) (j := 4) (by kernel_rfl)) (fun w' => by simp [go_sem, e0]) ?_
      refine GW.mv rfl trivial (.inl rfl) (kn (t := 8) (j := 5) (by kernel_rfl)) (eqv_lasts _) ?_
      refine GW.p1 (.pointer (some ⟨w.heap.size, 1, none⟩)) rfl ⟨9, by kernel_rfl, by kernel_rfl, fun _ _ h => h⟩ (kn0 (t := 1) (c := .pointer (some ⟨w.heap.size, 0, none⟩)) (by kernel_rfl) rfl) (fun ρ w' hρ hg => by simp [execOp, hρ, go_sem]) ?_
      refine GW.p1 (.slice A n c) rfl ⟨9, by kernel_rfl, by kernel_rfl, fun _ _ h => h⟩ (kn (t := 10) (j := 7) (by kernel_rfl)) (fun ρ w' hρ hg => by simp [execOp, hρ, go_sem, (hg.cell (p := ⟨w.heap.size, 1, none⟩) bx.out.lt).trans (bx.out.cell 1)]) ?_
      refine GW.lenV rfl ⟨9, by kernel_rfl, by kernel_rfl, fun _ _ h => h⟩ rfl Try.underlying41 (kn (t := 11) (j := 8) (by kernel_rfl)) ?_
      refine GW.bin (.bool false) rfl ⟨9, by kernel_rfl, by kernel_rfl, fun _ _ h => h⟩ rfl (kn (t := 12) (j := 9) (by kernel_rfl)) knc (fun w' => by simp [go_sem, e1]) ?_
      refine GW.pick (b := true) rfl trivial rfl (kn (t := 9) (j := 6) (by kernel_rfl)) (kn (t := 13) (j := 10) (by kernel_rfl)) (eqv_lasts _) ?_
      refine GW.mv rfl trivial (.inl rfl) (kn (t := 14) (j := 11) (by kernel_rfl)) (eqv_lasts _) ?_
      refine GW.skip rfl rfl (d := 15) (by kernel_rfl) (by kernel_rfl) (fun _ _ h => .inl h) ?_
      refine GW.skip rfl rfl (d := 15) (by kernel_rfl) (by kernel_rfl) (fun _ _ h => .inl h) ?_
      refine GW.skip rfl rfl (d := 15) (by kernel_rfl) (by kernel_rfl) (fun _ _ h => .inl h) ?_
      refine GW.pick (b := false) rfl trivial rfl (kn (t := 15) (j := 12) (by kernel_rfl)) (knc) (eqv_lasts _) ?_
      refine GW.mv rfl trivial (.inl rfl) (kn (t := 19) (j := 16) (by kernel_rfl)) (eqv_lasts _) ?_
      refine GW.skip rfl rfl (d := 20) (by kernel_rfl) (by kernel_rfl) (fun _ _ h => .inl h) ?_
      refine GW.skip rfl rfl (d := 20) (by kernel_rfl) (by kernel_rfl) (fun _ _ h => .inl h) ?_
      refine GW.skip rfl rfl (d := 20) (by kernel_rfl) (by kernel_rfl) (fun _ _ h => .inl h) ?_
      refine GW.skip rfl rfl (d := 20) (by kernel_rfl) (by kernel_rfl) (fun _ _ h => .inl h) ?_
      refine GW.skip rfl rfl (d := 20) (by kernel_rfl) (by kernel_rfl) (fun _ _ h => .inl h) ?_
      refine GW.pick (b := false) rfl trivial rfl (kn (t := 20) (j := 17) (by kernel_rfl)) (knc) (eqv_lasts _) ?_
      refine GW.mv rfl trivial (.inl rfl) (kn (t := 26) (j := 23) (by kernel_rfl)) (eqv_lasts _) ?_
      refine GW.skip rfl rfl (d := 27) (by kernel_rfl) (by kernel_rfl) (fun _ _ h => .inl h) ?_
      refine GW.skip rfl rfl (d := 27) (by kernel_rfl) (by kernel_rfl) (fun _ _ h => .inl h) ?_
      refine GW.skip rfl rfl (d := 27) (by kernel_rfl) (by kernel_rfl) (fun _ _ h => .inl h) ?_
      refine GW.skip rfl rfl (d := 27) (by kernel_rfl) (by kernel_rfl) (fun _ _ h => .inl h) ?_
      refine GW.skip rfl rfl (d := 31) (by kernel_rfl) (by kernel_rfl) (fun _ _ h => .inr h) ?_
      refine GW.skip rfl rfl (d := 31) (by kernel_rfl) (by kernel_rfl) (fun _ _ h => .inr h) ?_
      refine GW.skip rfl rfl (d := 31) (by kernel_rfl) (by kernel_rfl) (fun _ _ h => .inr h) ?_
      refine GW.skip rfl rfl (d := 31) (by kernel_rfl) (by kernel_rfl) (fun _ _ h => .inr h) ?_
      refine GW.skip rfl rfl (d := 27) (by kernel_rfl) (by kernel_rfl) (fun _ _ h => .inl h) ?_
      refine GW.pick (b := false) rfl trivial rfl (kn (t := 27) (j := 24) (by kernel_rfl)) (knc) (eqv_lasts _) ?_
      refine GW.mv rfl trivial (.inr rfl) (kn (t := 37) (j := 34) (by kernel_rfl)) (eqv_lasts _) ?_
      refine GW.done (by simp) (by kernel_rfl) (fun w' hg_ => ?_)
      intro v0 _ v1 _ v2 _ v3 _ v4 _ v5 _ v6 _ v7 _ v8 _ v9 _ v10 _ v11 _ v12 _ v13 _ v14 _ v15 _ v16 _ v17 _ v18 _ v19 _ v20 _ v21 _ v22 _ v23 _ v24 _ v25 _ v26 _ v27 _ v28 _ v29 _ v30 _ v31 _ v32 _ v33 _ v34 _ v35 h35
      obtain rfl : v35 = (Value.bool false) := h35
      simp only [GFin, Act.put, List.setIfInBounds_toArray, List.set_cons_succ, List.set_cons_zero]
      go_wp2
      go_ret
      exact ⟨rfl, Gr.trans g0.out hg_⟩
  · rw [decide_eq_false hp] at e0
    obtain rfl : q = false := by rw [hR]; simp; omega
    clear hR
    go_enter Try.func25, Try.ntmps25
    go_wp2
    refine region_grow (by kernel_rfl) (by kernel_rfl) ?_
    refine GW.p1 (.pointer (some ⟨w.heap.size, 0, none⟩)) rfl trivial (kn0 (t := 1) (c := .pointer (some ⟨w.heap.size, 0, none⟩)) (by kernel_rfl) rfl) (fun ρ w' hρ hg => by simp [execOp, hρ, go_sem]) ?_
    refine GW.p1 (.int .i64 z) rfl trivial (kn (t := 3) (j := 0) (by kernel_rfl)) (fun ρ w' hρ hg => by simp [execOp, hρ, go_sem, (hg.cell (p := ⟨w.heap.size, 0, none⟩) bx.out.lt).trans (bx.out.cell 0)]) ?_
    refine GW.p1 (.pointer (some ⟨w.heap.size, 0, none⟩)) rfl trivial (kn0 (t := 1) (c := .pointer (some ⟨w.heap.size, 0, none⟩)) (by kernel_rfl) rfl) (fun ρ w' hρ hg => by simp [execOp, hρ, go_sem]) ?_
    refine GW.p1 (.int .i64 z) rfl trivial (kn (t := 5) (j := 2) (by kernel_rfl)) (fun ρ w' hρ hg => by simp [execOp, hρ, go_sem, (hg.cell (p := ⟨w.heap.size, 0, none⟩) bx.out.lt).trans (bx.out.cell 0)]) ?_
    refine GW.call1 (eqv (.int .i64 (h : Int))) rfl trivial rfl Try.func22 (by kernel_rfl) (by kernel_rfl) (eqv_lasts _) (kn (t := 6) (j := 3) (by kernel_rfl)) (fun v w' hg hv => ?_) ?_
    · obtain rfl : v = _ := hv
      refine (hho.out w').mono ?_
      rintro e w9 ⟨rfl, rfl⟩
      exact ⟨_, rfl, rfl, Gr.refl _⟩
    refine GW.bin (.bool false) rfl trivial rfl (kn (t := 4) (j := 1) (by kernel_rfl)) (kn (t := 7) (j := 4) (by kernel_rfl)) (fun w' => by simp [go_sem, e0]) ?_
    refine GW.mv rfl trivial (.inl rfl) (kn (t := 8) (j := 5) (by kernel_rfl)) (eqv_lasts _) ?_
    refine GW.skip rfl rfl (d := 9) (by kernel_rfl) (by kernel_rfl) (fun _ _ h => .inl h) ?_
    refine GW.skip rfl rfl (d := 9) (by kernel_rfl) (by kernel_rfl) (fun _ _ h => .inl h) ?_
    refine GW.skip rfl rfl (d := 9) (by kernel_rfl) (by kernel_rfl) (fun _ _ h => .inl h) ?_
    refine GW.skip rfl rfl (d := 9) (by kernel_rfl) (by kernel_rfl) (fun _ _ h => .inl h) ?_
    refine GW.pick (b := false) rfl trivial rfl (kn (t := 9) (j := 6) (by kernel_rfl)) (knc) (eqv_lasts _) ?_
    refine GW.mv rfl trivial (.inl rfl) (kn (t := 14) (j := 11) (by kernel_rfl)) (eqv_lasts _) ?_
    refine GW.skip rfl rfl (d := 15) (by kernel_rfl) (by kernel_rfl) (fun _ _ h => .inl h) ?_
    refine GW.skip rfl rfl (d := 15) (by kernel_rfl) (by kernel_rfl) (fun _ _ h => .inl h) ?_
    refine GW.skip rfl rfl (d := 15) (by kernel_rfl) (by kernel_rfl) (fun _ _ h => .inl h) ?_
    refine GW.pick (b := false) rfl trivial rfl (kn (t := 15) (j := 12) (by kernel_rfl)) (knc) (eqv_lasts _) ?_
    refine GW.mv rfl trivial (.inl rfl) (kn (t := 19) (j := 16) (by kernel_rfl)) (eqv_lasts _) ?_
    refine GW.skip rfl rfl (d := 20) (by kernel_rfl) (by kernel_rfl) (fun _ _ h => .inl h) ?_
    refine GW.skip rfl rfl (d := 20) (by kernel_rfl) (by kernel_rfl) (fun _ _ h => .inl h) ?_
    refine GW.skip rfl rfl (d := 20) (by kernel_rfl) (by kernel_rfl) (fun _ _ h => .inl h) ?_
    refine GW.skip rfl rfl (d := 20) (by kernel_rfl) (by kernel_rfl) (fun _ _ h => .inl h) ?_
    refine GW.skip rfl rfl (d := 20) (by kernel_rfl) (by kernel_rfl) (fun _ _ h => .inl h) ?_
    refine GW.pick (b := false) rfl trivial rfl (kn (t := 20) (j := 17) (by kernel_rfl)) (knc) (eqv_lasts _) ?_
    refine GW.mv rfl trivial (.inl rfl) (kn (t := 26) (j := 23) (by kernel_rfl)) (eqv_lasts _) ?_
    refine GW.skip rfl rfl (d := 27) (by kernel_rfl) (by kernel_rfl) (fun _ _ h => .inl h) ?_
    refine GW.skip rfl rfl (d := 27) (by kernel_rfl) (by kernel_rfl) (fun _ _ h => .inl h) ?_
    refine GW.skip rfl rfl (d := 27) (by kernel_rfl) (by kernel_rfl) (fun _ _ h => .inl h) ?_
    refine GW.skip rfl rfl (d := 27) (by kernel_rfl) (by kernel_rfl) (fun _ _ h => .inl h) ?_
    refine GW.skip rfl rfl (d := 31) (by kernel_rfl) (by kernel_rfl) (fun _ _ h => .inr h) ?_
    refine GW.skip rfl rfl (d := 31) (by kernel_rfl) (by kernel_rfl) (fun _ _ h => .inr h) ?_
    refine GW.skip rfl rfl (d := 31) (by kernel_rfl) (by kernel_rfl) (fun _ _ h => .inr h) ?_
    refine GW.skip rfl rfl (d := 31) (by kernel_rfl) (by kernel_rfl) (fun _ _ h => .inr h) ?_
    refine GW.skip rfl rfl (d := 27) (by kernel_rfl) (by kernel_rfl) (fun _ _ h => .inl h) ?_
    refine GW.pick (b := false) rfl trivial rfl (kn (t := 27) (j := 24) (by kernel_rfl)) (knc) (eqv_lasts _) ?_
    refine GW.mv rfl trivial (.inr rfl) (kn (t := 37) (j := 34) (by kernel_rfl)) (eqv_lasts _) ?_
    refine GW.done (by simp) (by kernel_rfl) (fun w' hg_ => ?_)
    intro v0 _ v1 _ v2 _ v3 _ v4 _ v5 _ v6 _ v7 _ v8 _ v9 _ v10 _ v11 _ v12 _ v13 _ v14 _ v15 _ v16 _ v17 _ v18 _ v19 _ v20 _ v21 _ v22 _ v23 _ v24 _ v25 _ v26 _ v27 _ v28 _ v29 _ v30 _ v31 _ v32 _ v33 _ v34 _ v35 h35
    obtain rfl : v35 = (Value.bool false) := h35
    simp only [GFin, Act.put, List.setIfInBounds_toArray, List.set_cons_succ, List.set_cons_zero]
    go_wp2
    go_ret
    exact ⟨rfl, Gr.trans g0.out hg_⟩
theorem right_any (s : Sig) (A : Option Addr) (c : Nat) (w : World) : Calls Try.prog 25 #[sigV s A c] w fun e w' => e = .returned (.bool (right s)) ∧ Gr w w' := right_raw _ _ _ _ _ rfl A c w
end Sg
end Go.Proofs.Ytalkmkplmbmnkaa
namespace Go.Proofs.Ytalkmkplmbmnkaa
open Go Go.RowKit Go.Shelf W Sg Tk
namespace Se
theorem res_slice1 {P : Program} {w : World} {T E : TypeId} {o : Oper} {a : Act} {A : Option Addr} {l : List UInt8} {c f : Nat} {k : IntKind} (x y : Operand) (hT : P.underlying T = some (.slice E)) (hE : (P.info? E).map (·.size) = some 1) (ho : o.op = .slice T x (some y) none none)
    (h1 : a.eval x = .slice A l.length c) (h2 : a.eval y = .int k (f : Int)) (hft : f ≤ l.length) (hc : l.length ≤ c) (hcm : c ≤ maxLen) (hr : RB w w.heap.size A l) :
    Res P (execOp a.eval o) (isB (l.drop f)) w := by
  obtain ⟨i0, q0, q1⟩ := Option.map_eq_some_iff.1 hE
  obtain ⟨run, hd⟩ := run_slice_lo (P := P) (w := w) hT q0 q1 hr hc k f hft
  refine .here (v := .slice (if c = f then A else A.map (·.add f)) (l.drop f).length (c - f)) ?_ ⟨_, _, rfl, by rw [List.length_drop]; omega, by omega, hd⟩
  simp only [execOp, ho, h1, Option.map_some, Option.map_none, h2]
  rw [Sem.run_bind, run]
  rfl
/-- Does the tail stand at the end, from a place on? -/
def tailP (s : Sig) (b : List UInt8) (at_ : Nat) : Bool := decide (0 < s.tail) && decide ((at_ : Int) ≤ (b.length : Int) - s.tail) && (sign (b.drop (b.length - s.tail.toNat)) == s.last)
set_option maxRecDepth 100000 in
set_option maxHeartbeats 4000000 in
theorem tail_any (g : Nat) (X : HS) (last : Int) (out : List Tok) (at_ : Nat) (w : World) (h : Hn w g X last out) (hrb : RB w g X.Ab X.b) (hcb : X.b.length ≤ X.cb ∧ X.cb ≤ maxLen) (hbl : X.b.length ≤ 16384) (ha : at_ ≤ X.b.length) (tl : Nat) (htl : X.s.tail = (tl : Int)) (ht : tl ≤ 1000) :
    Calls Try.prog 41 #[.pointer (some ⟨g, 0, none⟩), .int .i64 (at_ : Int)] w fun e w' => e = .returned (.tuple #[.int .i64 ((X.b.length : Int) - X.s.tail), .bool (tailP X.s X.b at_)]) ∧ Gr w w' := by
  obtain ⟨ov, hb, ho⟩ := h
  unfold tailP
  unfold hcells at hb
  rw [htl] at hb ⊢
  have c0 := hb.cell 2
  have c1 := hb.cell 7
  have lg := hb.lt
  have hwr : (IntKind.i64).wrap ((X.b.length : Int) - (tl : Int)) = (X.b.length : Int) - (tl : Int) := by rw [IntKind.wrap_i64]; omega
  have hb1 : (X.b.length : Int) ≤ 16384 := by omega
  have ht1 : (tl : Int) ≤ 1000 := by omega
  replace hrb := Lib.hid hrb
  replace hcb := Lib.hid hcb
  clear ho
  by_cases ht0 : (0 : Int) < (tl : Int)
  · have htn : 0 < tl := by omega
    by_cases hpa : (at_ : Int) ≤ (X.b.length : Int) - (tl : Int)
    · obtain ⟨p, hp⟩ : ∃ p : Nat, p = X.b.length - tl := ⟨_, rfl⟩
      have hpe : (X.b.length : Int) - (tl : Int) = (p : Int) := by omega
      have hpl : p ≤ X.b.length := by omega
      rw [decide_eq_true ht0, decide_eq_true hpa, Bool.true_and, Bool.true_and, Int.toNat_natCast, ← hp]
      rw [hpe] at hpa hwr ⊢
      replace hp := Lib.hid hp
      replace hb := Lib.hid hb
      go_enter Try.func41, Try.ntmps41
      go_wp2
      go_quiet (fail)
      generalize hV : w.drewN _ = V
      have gV : Gr w V := by rw [← hV]; exact below_drewN (Below.refl _ _) _
      clear hV c0 c1
      replace hb := blk_more hb.out gV
      have c0 := hb.cell 2
      have c1 := hb.cell 7
      replace hb := Lib.hid hb
      replace hrb := Lib.hid (hrb.out.below (Below.mono gV (Nat.le_of_lt lg)))
      go_wp2
      refine region_grow rfl (by kernel_rfl) ?_
      refine GW.mv rfl trivial (.inl rfl) (kn0 (t := 6) (c := .int .i64 (p : Int)) (by kernel_rfl) rfl) (eqv_lasts _) ?_
      refine GW.mv rfl trivial (.inl rfl) (kn0 (t := 0) (c := .pointer (some ⟨g, 0, none⟩)) (by kernel_rfl) rfl) (eqv_lasts _) ?_
      refine GW.p1 (.pointer (some ⟨g, 0, none⟩)) rfl trivial (kn (t := 19) (j := 1) (by kernel_rfl)) (fun ρ w' hρ hg => by simp [execOp, hρ, go_sem]) ?_
      refine GW.p1 (.pointer (some ⟨g, 0, none⟩)) rfl trivial (kn (t := 20) (j := 2) (by kernel_rfl)) (fun ρ w' hρ hg => by simp [execOp, hρ, go_sem]) ?_
      refine GW.p1 (.pointer (some ⟨g, 2, none⟩)) rfl trivial (kn (t := 21) (j := 3) (by kernel_rfl)) (fun ρ w' hρ hg => by simp [execOp, hρ, go_sem]) ?_
      refine GW.p1 (.int .i64 (tl : Int)) rfl trivial (kn (t := 22) (j := 4) (by kernel_rfl)) (fun ρ w' hρ hg => by simp [execOp, hρ, go_sem, (hg.cell (p := ⟨g, 2, none⟩) hb.out.lt).trans (hb.out.cell 2)]) ?_
      refine GW.bin (.bool true) rfl trivial rfl (kn (t := 23) (j := 5) (by kernel_rfl)) knc (fun w' => by simp [go_sem, htn]) ?_
      refine GW.mv rfl trivial (.inl rfl) (kn (t := 24) (j := 6) (by kernel_rfl)) (eqv_lasts _) ?_
      refine GW.mv rfl ⟨25, by kernel_rfl, by kernel_rfl, fun _ _ h => h⟩ (.inl rfl) (kn0 (t := 6) (c := .int .i64 (p : Int)) (by kernel_rfl) rfl) (eqv_lasts _) ?_
      refine GW.mv rfl ⟨25, by kernel_rfl, by kernel_rfl, fun _ _ h => h⟩ (.inl rfl) (kn0 (t := 1) (c := .int .i64 (at_ : Int)) (by kernel_rfl) rfl) (eqv_lasts _) ?_
      refine GW.bin (.bool true) rfl ⟨25, by kernel_rfl, by kernel_rfl, fun _ _ h => h⟩ rfl (kn (t := 26) (j := 8) (by kernel_rfl)) (kn (t := 27) (j := 9) (by kernel_rfl)) (fun w' => by simp [go_sem, hpa]) ?_
      refine GW.pick (b := true) rfl trivial rfl (kn (t := 25) (j := 7) (by kernel_rfl)) (kn (t := 28) (j := 10) (by kernel_rfl)) (eqv_lasts _) ?_
      refine GW.mv rfl trivial (.inl rfl) (kn (t := 29) (j := 11) (by kernel_rfl)) (eqv_lasts _) ?_
      refine GW.mv rfl ⟨30, by kernel_rfl, by kernel_rfl, fun _ _ h => h⟩ (.inl rfl) (kn0 (t := 0) (c := .pointer (some ⟨g, 0, none⟩)) (by kernel_rfl) rfl) (eqv_lasts _) ?_
      refine GW.p1 (.pointer (some ⟨g, 0, none⟩)) rfl ⟨30, by kernel_rfl, by kernel_rfl, fun _ _ h => h⟩ (kn (t := 31) (j := 13) (by kernel_rfl)) (fun ρ w' hρ hg => by simp [execOp, hρ, go_sem]) ?_
      refine GW.p1 (.pointer (some ⟨g, 7, none⟩)) rfl ⟨30, by kernel_rfl, by kernel_rfl, fun _ _ h => h⟩ (kn (t := 32) (j := 14) (by kernel_rfl)) (fun ρ w' hρ hg => by simp [execOp, hρ, go_sem]) ?_
      refine GW.p1 (.slice X.Ab X.b.length X.cb) rfl ⟨30, by kernel_rfl, by kernel_rfl, fun _ _ h => h⟩ (kn (t := 33) (j := 15) (by kernel_rfl)) (fun ρ w' hρ hg => by simp [execOp, hρ, go_sem, (hg.cell (p := ⟨g, 7, none⟩) hb.out.lt).trans (hb.out.cell 7)]) ?_
      refine GW.mv rfl ⟨30, by kernel_rfl, by kernel_rfl, fun _ _ h => h⟩ (.inl rfl) (kn0 (t := 6) (c := .int .i64 (p : Int)) (by kernel_rfl) rfl) (eqv_lasts _) ?_
      refine GW.op (isB (X.b.drop p)) rfl (isB_lasts _) ⟨30, by kernel_rfl, by kernel_rfl, fun _ _ h => h⟩ (fun a w' hg hkn => ?_) ?_
      · have h1 : a.eval (.tmp 34) = .slice X.Ab X.b.length X.cb := (kn (t := 34) (j := 16) (by kernel_rfl)) a w' hg hkn
        have h2 : a.eval (.tmp 35) = .int .i64 (p : Int) := (kn (t := 35) (j := 17) (by kernel_rfl)) a w' hg hkn
        exact res_slice1 (.tmp 34) (.tmp 35) Try.underlying22 byteSz rfl h1 h2 (by omega) hcb.out.1 hcb.out.2 ((hrb.out.below (Below.mono hg (Nat.le_of_lt hb.out.lt))).more (Nat.le_trans (Nat.le_of_lt hb.out.lt) hg.size))
      refine GW.call1 (eqv (sV (sign (X.b.drop p)))) rfl ⟨30, by kernel_rfl, by kernel_rfl, fun _ _ h => h⟩ rfl Try.func24 (by kernel_rfl) (by kernel_rfl) (eqv_lasts _) (kn (t := 36) (j := 18) (by kernel_rfl)) (fun v w' hg hv => ?_) ?_
      · obtain ⟨A8, c8, rfl, hc8, hm8, r8⟩ := hv
        refine (signOf_any A8 c8 (X.b.drop p) w' (by rw [List.length_drop]; omega) hc8 r8).mono ?_
        rintro e w9 ⟨rfl, hg9⟩
        exact ⟨_, rfl, rfl, hg9⟩
      refine GW.mv rfl ⟨30, by kernel_rfl, by kernel_rfl, fun _ _ h => h⟩ (.inl rfl) (kn0 (t := 0) (c := .pointer (some ⟨g, 0, none⟩)) (by kernel_rfl) rfl) (eqv_lasts _) ?_
      refine GW.p1 (.pointer (some ⟨g, 0, none⟩)) rfl ⟨30, by kernel_rfl, by kernel_rfl, fun _ _ h => h⟩ (kn (t := 38) (j := 20) (by kernel_rfl)) (fun ρ w' hρ hg => by simp [execOp, hρ, go_sem]) ?_
      refine GW.p1 (.pointer (some ⟨g, 0, none⟩)) rfl ⟨30, by kernel_rfl, by kernel_rfl, fun _ _ h => h⟩ (kn (t := 39) (j := 21) (by kernel_rfl)) (fun ρ w' hρ hg => by simp [execOp, hρ, go_sem]) ?_
      refine GW.p1 (.pointer (some ⟨g, 3, none⟩)) rfl ⟨30, by kernel_rfl, by kernel_rfl, fun _ _ h => h⟩ (kn (t := 40) (j := 22) (by kernel_rfl)) (fun ρ w' hρ hg => by simp [execOp, hρ, go_sem]) ?_
      refine GW.p1 (.agg #[.int .u32 (n32 X.s.last.1), .int .u64 (n64 X.s.last.2.1), .int .u64 (n64 X.s.last.2.2)]) rfl ⟨30, by kernel_rfl, by kernel_rfl, fun _ _ h => h⟩ (kn (t := 41) (j := 23) (by kernel_rfl)) (fun ρ w' hρ hg => by simp [execOp, hρ, go_sem, (hg.cell (p := ⟨g, 3, none⟩) hb.out.lt).trans (hb.out.cell 3), (hg.cell (p := ⟨g, 4, none⟩) hb.out.lt).trans (hb.out.cell 4), (hg.cell (p := ⟨g, 5, none⟩) hb.out.lt).trans (hb.out.cell 5)]) ?_
      refine GW.bin (.bool (sign (X.b.drop p) == X.s.last)) rfl ⟨30, by kernel_rfl, by kernel_rfl, fun _ _ h => h⟩ rfl (kn (t := 37) (j := 19) (by kernel_rfl)) (kn (t := 42) (j := 24) (by kernel_rfl)) (fun w' => (run_eql_sign _ (.inl rfl) (sign (X.b.drop p)) X.s.last _ _ w').1) ?_
      refine GW.pick (b := true) rfl trivial rfl (kn (t := 30) (j := 12) (by kernel_rfl)) (kn (t := 43) (j := 25) (by kernel_rfl)) (eqv_lasts _) ?_
      refine GW.mv rfl trivial (.inr rfl) (kn (t := 18) (j := 0) (by kernel_rfl)) (eqv_lasts _) ?_
      refine GW.mv rfl trivial (.inr rfl) (kn (t := 44) (j := 26) (by kernel_rfl)) (eqv_lasts _) ?_
      refine GW.done (by simp) (by kernel_rfl) (fun w' hg => ?_)
      intro v0 _ v1 _ v2 _ v3 _ v4 _ v5 _ v6 _ v7 _ v8 _ v9 _ v10 _ v11 _ v12 _ v13 _ v14 _ v15 _ v16 _ v17 _ v18 _ v19 _ v20 _ v21 _ v22 _ v23 _ v24 _ v25 _ v26 _ v27 h27 v28 h28
      obtain rfl : v27 = (.int .i64 (p : Int)) := h27
      obtain rfl : v28 = (.bool (sign (X.b.drop p) == X.s.last)) := h28
      simp only [GFin, Act.put, List.setIfInBounds_toArray, List.set_cons_succ, List.set_cons_zero]
      go_wp2
      go_ret2
      exact ⟨rfl, gV.trans hg⟩
    · rw [decide_eq_false hpa, Bool.and_false, Bool.false_and]
      replace hb := Lib.hid hb
      go_enter Try.func41, Try.ntmps41
      have hd1 := decide_eq_true ht0
      have hd2 := decide_eq_false hpa
      go_wp2
      go_quiet (fail)
      go_wp2
      go_quiet (fail)
      go_wp2
      go_ret2
      exact ⟨rfl, below_drewN (below_drewN (Below.refl _ _) _) _⟩
  · rw [decide_eq_false ht0, Bool.false_and, Bool.false_and]
    replace hb := Lib.hid hb
    go_enter Try.func41, Try.ntmps41
    have hd1 : decide (0 < tl) = false := decide_eq_false (by omega)
    clear ht0
    go_wp2
    go_quiet (fail)
    go_wp2
    go_quiet (fail)
    go_wp2
    go_ret2
    exact ⟨rfl, below_drewN (below_drewN (Below.refl _ _) _) _⟩
end Se
end Go.Proofs.Ytalkmkplmbmnkaa
namespace Go.Proofs.Ytalkmkplmbmnkaa
open Go Go.RowKit Go.Shelf W Sg Tk Go.Maps Go.ChangeMaps Go.MapKept Go.ChangeShapes
open Go.WideElems (Fit rd rg pl rd_val elemAt)
theorem ints_kt {t u e : TypeId} {w w' : World} {base : Nat} {q : IntKind} {v : Value} {zs : List Int} (k : KT2 t u w w') (h : w.ownsInts base e q v zs) (h1 : e ≠ t) (h2 : e ≠ u) : w'.ownsInts base e q v zs := ⟨k.or_ h.1 h1 h2, h.2⟩
theorem groups_kt {H : Type} {P : Program} {t u e : TypeId} {w w' : World} {K : TypeId} {base : Nat} {q : IntKind} {b n : Nat} {D : DataW H} (k : KT2 t u w w') (h : w.ownsGroups P K base e q b n D) (h1 : e ≠ t) (h2 : e ≠ u) : w'.ownsGroups P K base e q b n D := by
  obtain ⟨es, clock, hb, F, hs, rfl, hbb, hlen, hap⟩ := h
  have hst : ∀ x ∈ es.toList, ∀ z, rowElem (H := H) w base e q x.val = some z → rowElem w' base e q x.val = some z := fun x hx z hz => by
    obtain ⟨zs, ho, rfl⟩ := rowElem_inv hz
    exact rowElem_mk (ints_kt k ho h1 h2)
  obtain ⟨F2, hmap, _⟩ := F.stay hst
  refine ⟨es, clock, k.block b _ hb (fun c f => ⟨fun h => (by cases h), fun h => (by cases h)⟩), F2, hs, by rw [hmap], hbb, fun x hx zs ho => ?_, hap⟩
  obtain ⟨y, hy⟩ := F.reads x hx
  obtain ⟨z, hz, _⟩ := rd_val hy
  obtain ⟨ys, ho', _⟩ := rowElem_inv hz
  rw [ho.unique (ints_kt k ho' h1 h2)]
  exact hlen x hx ys ho'
namespace Se
/-- The blocks of one weak sum. -/
def weakIdx (bs : List Sign) (x : UInt32) : List Int := (bs.zipIdx.filter fun p => p.1.1 == x).map fun p => (p.2 : Int)
theorem weakIdx_snoc (bs : List Sign) (s : Sign) (x : UInt32) : weakIdx (bs ++ [s]) x = weakIdx bs x ++ (if s.1 == x then [(bs.length : Int)] else []) := by
  unfold weakIdx
  rw [List.zipIdx_append, List.filter_append, List.map_append]
  congr 1
  simp only [List.zipIdx_cons, List.zipIdx_nil, List.filter_cons, List.filter_nil, Nat.zero_add]
  split <;> simp
theorem mem_weakIdx {bs : List Sign} {x : UInt32} {i : Int} : i ∈ weakIdx bs x ↔ ∃ (k : Nat) (h : k < bs.length), i = (k : Int) ∧ (bs[k]).1 = x := by
  unfold weakIdx
  simp only [List.mem_map, List.mem_filter, beq_iff_eq]
  constructor
  · rintro ⟨⟨s, k⟩, ⟨h1, h2⟩, rfl⟩
    obtain ⟨hk, e⟩ := List.mem_zipIdx' h1
    exact ⟨k, hk, rfl, by rw [← e]; exact h2⟩
  · rintro ⟨k, hk, rfl, h2⟩
    exact ⟨(bs[k], k), ⟨List.mk_mem_zipIdx_iff_getElem?.2 (by simp [hk]), h2⟩, rfl⟩
def itemsD {H : Type} : DataW H → List (DataW H)
  | .slice es _ => es
  | _ => []
/-- Block mb is the map of the first n blocks by their weak sums. -/
def WM (w : World) (mb : Nat) (bs : List Sign) : Prop := ∃ D : DataW Unit, w.ownsGroups Try.prog 31 (mb + 1) 3 .i64 mb bs.length D ∧ ∀ x : UInt32, itemsD (D.atKey (.int .u32 (n32 x)) .nil) = lits .i64 (weakIdx bs x)
theorem WM.kt {w w' : World} {mb : Nat} {bs : List Sign} (h : WM w mb bs) (k : KS w w') : WM w' mb bs := by
  obtain ⟨D, h1, h2⟩ := h
  exact ⟨D, groups_kt k h1 (by decide) (by decide), h2⟩
theorem WM.gr {w w' : World} {mb : Nat} {bs : List Sign} (h : WM w mb bs) (k : Gr w w') : WM w' mb bs := h.kt (KT2.of_gr k)
theorem lits_inj {a b : List Int} (h : lits (H := Unit) .i64 a = lits .i64 b) : a = b := by
  unfold lits at h
  exact (List.map_inj_right (fun x y e => by cases e; rfl)).1 h
theorem law32 : Keyed Try.prog 31 := int_keyed Try.underlying31
theorem zeroInts (w : World) : (zeroValue 79).run Try.prog w = .ok (.slice none 0 0) w := by kernel_rfl
theorem key32 (x : UInt32) : keyOf Try.prog 31 (.int .u32 (n32 x)) = some (.int .u32 (n32 x)) := keyOf_int_mk Try.underlying31 (by
  have := n32_pos x
  have := n32_lt x
  exact WalkArith.wf_u32 ⟨by omega, by omega⟩)
/-- The look-up. -/
theorem WM.look {w : World} {mb : Nat} {bs : List Sign} (h : WM w mb bs) (hl : bs.length ≤ 1000000) (x : UInt32) : ∃ v, (Instr.lookup 76 (.map (some mb)) (.int .u32 (n32 x)) false).run Try.prog w = .ok v w ∧ w.ownsInts (mb + 1) 3 .i64 v (weakIdx bs x) := by
  obtain ⟨D, h1, h2⟩ := h
  obtain ⟨v, zs, hrun, hat, ho, _, _⟩ := h1.at law32 Try.underlying76 (zeroInts w) (by unfold maxLen; omega) (key32 x)
  refine ⟨v, hrun, ?_⟩
  have e : zs = weakIdx bs x := by
    have := h2 x
    rw [hat] at this
    rcases ho.datum (H := Unit) with ⟨hd, hz⟩ | hd
    · rw [hd] at this
      rw [hz]
      exact lits_inj (by rw [← this]; rfl)
    · rw [hd] at this
      exact lits_inj this
  rw [← e]
  exact ho
end Se
end Go.Proofs.Ytalkmkplmbmnkaa
namespace Go.Proofs.Ytalkmkplmbmnkaa
open Go Go.RowKit Go.Shelf W Sg Tk
namespace Se
/-- The block that is copied, for a sign; next: the block behind the one that was copied right ahead. -/
def whichP (bs : List Sign) (x : Sign) (next : Int) : Option Nat := if 0 ≤ next ∧ bs[next.toNat]? = some x then some next.toNat else bs.findIdx? (· == x)
def whichV (o : Option Nat) : Value := match o with
  | some k => .tuple #[.int .i64 (k : Int), .bool true]
  | none => .tuple #[.int .i64 0, .bool false]
theorem weakIdx_none {bs : List Sign} {x : Sign} (h : ∀ i ∈ weakIdx bs x.1, bs[i.toNat]? ≠ some x) : bs.findIdx? (· == x) = none := by
  rw [List.findIdx?_eq_none_iff]
  intro y hy
  rw [beq_eq_false_iff_ne]
  rintro rfl
  obtain ⟨k, hk, e⟩ := List.getElem_of_mem hy
  exact h (k : Int) (mem_weakIdx.2 ⟨k, hk, rfl, by rw [e]⟩) (by simp [hk, e])
theorem weakIdx_len (bs : List Sign) (x : UInt32) : (weakIdx bs x).length ≤ bs.length := by
  unfold weakIdx
  rw [List.length_map]
  exact Nat.le_trans (List.length_filter_le _ _) (by rw [List.length_zipIdx]; exact Nat.le_refl _)
theorem zip_sorted (bs : List Sign) : ∀ n, (bs.zipIdx n).Pairwise (fun p q => p.2 < q.2) := by
  induction bs with
  | nil => intro n; simp
  | cons b bs ih =>
    intro n
    rw [List.zipIdx_cons, List.pairwise_cons]
    refine ⟨fun p hp => ?_, ih _⟩
    obtain ⟨s, i⟩ := p
    have := (List.mem_zipIdx hp).1
    simp only
    omega
theorem weakIdx_sorted (bs : List Sign) (x : UInt32) : (weakIdx bs x).Pairwise (· < ·) := by
  unfold weakIdx
  rw [List.pairwise_map]
  refine ((zip_sorted bs 0).filter _).imp ?_
  intro p q h
  omega
theorem weakIdx_first {bs : List Sign} {x : Sign} {j : Nat} (hj : j < (weakIdx bs x.1).length) (k : Nat) (hk : (weakIdx bs x.1)[j] = (k : Int)) (hx : bs[k]? = some x) (h : ∀ i, (hi : i < j) → bs[((weakIdx bs x.1)[i]'(by omega)).toNat]? ≠ some x) : bs.findIdx? (· == x) = some k := by
  rw [List.findIdx?_eq_some_iff_getElem]
  obtain ⟨hkl, hke⟩ := List.getElem?_eq_some_iff.1 hx
  refine ⟨hkl, by simp [hke], fun m hm => ?_⟩
  have hml : m < bs.length := by omega
  simp only [beq_iff_eq]
  intro e
  obtain ⟨i, hi, hie⟩ := List.getElem_of_mem (mem_weakIdx.2 ⟨m, hml, rfl, by rw [e]⟩ : (m : Int) ∈ weakIdx bs x.1)
  have hs := List.pairwise_iff_getElem.1 (weakIdx_sorted bs x.1)
  rcases Nat.lt_trichotomy i j with h1 | h1 | h1
  · refine h i h1 ?_
    rw [hie]
    simp [hml, e]
  · subst h1
    rw [hie] at hk
    omega
  · have := hs j i hj hi h1
    rw [hie, hk] at this
    omega
set_option maxRecDepth 100000 in
set_option maxHeartbeats 8000000 in
theorem which_any (g : Nat) (X : HS) (last : Int) (out : List Tok) (at_ sz mb : Nat) (w : World) (h : Hn w g X last out) (hmp : X.mp = .map (some mb)) (hwm : WM w mb X.s.bs) (hsr : SR w g X.A1 X.s.bs) (hrb : RB w g X.Ab X.b) (hcb : X.b.length ≤ X.cb ∧ X.cb ≤ maxLen) (hbl : X.b.length ≤ 16384) (hnl : X.s.bs.length ≤ 1000000)
    (hsz : X.s.size = (sz : Int)) (hwin : at_ + sz ≤ X.b.length) (sum : UInt32) (hsum : (sign ((X.b.drop at_).take sz)).1 = sum) :
    Calls Try.prog 38 #[.pointer (some ⟨g, 0, none⟩), .int .i64 (at_ : Int), .int .u32 (n32 sum)] w fun e w' => e = .returned (whichV (whichP X.s.bs (sign ((X.b.drop at_).take sz)) last)) ∧ Gr w w' := by
  obtain ⟨ov, hb, ho⟩ := h
  clear ho
  unfold hcells at hb
  rw [hmp, hsz] at hb
  obtain ⟨v, hlk, hown⟩ := hwm.look hnl sum
  obtain ⟨Al, cl, rfl, hlc, hlm⟩ := OR.shape (show OR 3 1 w (mb + 1) v (weakIdx X.s.bs sum).length ((weakIdx X.s.bs sum).map (Value.int .i64)) from hown.1)
  have c6 := hb.cell 6
  obtain ⟨x, hx⟩ : ∃ x, sign ((X.b.drop at_).take sz) = x := ⟨_, rfl⟩
  rw [hx] at hsum ⊢
  subst hsum
  have hwr : (IntKind.i64).wrap ((at_ : Int) + (sz : Int)) = (at_ : Int) + (sz : Int) := by rw [IntKind.wrap_i64]; omega
  have hzl : (weakIdx X.s.bs x.1).length ≤ 1000000 := Nat.le_trans (weakIdx_len _ _) hnl
  replace hb := Lib.hid hb
  replace hrb := Lib.hid hrb
  replace hcb := Lib.hid hcb
  replace hsr := Lib.hid hsr
  replace hown := Lib.hid hown.1
  clear hwm
  obtain ⟨r, hr0⟩ : ∃ r, whichP X.s.bs x last = r := ⟨_, rfl⟩
  rw [hr0]
  replace hr0 := Lib.hid hr0
  by_cases hz : (weakIdx X.s.bs x.1).length = 0
  · have hz0 : (((weakIdx X.s.bs x.1).length : Int) == 0) = true := by simp [hz]
    have hr : whichP X.s.bs x last = none := by
      have hno : X.s.bs.findIdx? (· == x) = none := weakIdx_none (fun i hi => by rw [List.length_eq_zero_iff.1 hz] at hi; cases hi)
      unfold whichP
      rw [if_neg (fun h => ?_), hno]
      obtain ⟨hk, e⟩ := List.getElem?_eq_some_iff.1 h.2
      have := List.findIdx?_eq_none_iff.1 hno _ (List.getElem_mem hk)
      simp [e] at this
    obtain rfl : r = none := by rw [← hr0.out, hr]
    clear hr
    go_enter Try.func38, Try.ntmps38
    go_wp2
    go_ret2
    exact ⟨rfl, Gr.refl w⟩
  · have hz0 : (((weakIdx X.s.bs x.1).length : Int) == 0) = false := by rw [beq_eq_false_iff_ne]; omega
    go_enter Try.func38, Try.ntmps38
    go_wp2
    refine region_grow rfl (by kernel_rfl) ?_
    refine GW.mv rfl trivial (.inl rfl) (kn0 (t := 0) (c := .pointer (some ⟨g, 0, none⟩)) (by kernel_rfl) rfl) (eqv_lasts _) ?_
    refine GW.p1 (.pointer (some ⟨g, 0, none⟩)) rfl trivial (kn (t := 21) (j := 0) (by kernel_rfl)) (fun ρ w' hρ hg => by simp [execOp, hρ, go_sem]) ?_
    refine GW.p1 (.pointer (some ⟨g, 7, none⟩)) rfl trivial (kn (t := 22) (j := 1) (by kernel_rfl)) (fun ρ w' hρ hg => by simp [execOp, hρ, go_sem]) ?_
    refine GW.p1 (.slice X.Ab X.b.length X.cb) rfl trivial (kn (t := 23) (j := 2) (by kernel_rfl)) (fun ρ w' hρ hg => by simp [execOp, hρ, go_sem, (hg.cell (p := ⟨g, 7, none⟩) hb.out.lt).trans (hb.out.cell 7)]) ?_
    refine GW.mv rfl trivial (.inl rfl) (kn0 (t := 1) (c := .int .i64 (at_ : Int)) (by kernel_rfl) rfl) (eqv_lasts _) ?_
    refine GW.mv rfl trivial (.inl rfl) (kn0 (t := 1) (c := .int .i64 (at_ : Int)) (by kernel_rfl) rfl) (eqv_lasts _) ?_
    refine GW.mv rfl trivial (.inl rfl) (kn0 (t := 0) (c := .pointer (some ⟨g, 0, none⟩)) (by kernel_rfl) rfl) (eqv_lasts _) ?_
    refine GW.p1 (.pointer (some ⟨g, 0, none⟩)) rfl trivial (kn (t := 27) (j := 6) (by kernel_rfl)) (fun ρ w' hρ hg => by simp [execOp, hρ, go_sem]) ?_
    refine GW.p1 (.pointer (some ⟨g, 0, none⟩)) rfl trivial (kn (t := 28) (j := 7) (by kernel_rfl)) (fun ρ w' hρ hg => by simp [execOp, hρ, go_sem]) ?_
    refine GW.p1 (.pointer (some ⟨g, 0, none⟩)) rfl trivial (kn (t := 29) (j := 8) (by kernel_rfl)) (fun ρ w' hρ hg => by simp [execOp, hρ, go_sem]) ?_
    refine GW.p1 (.int .i64 (sz : Int)) rfl trivial (kn (t := 30) (j := 9) (by kernel_rfl)) (fun ρ w' hρ hg => by simp [execOp, hρ, go_sem, (hg.cell (p := ⟨g, 0, none⟩) hb.out.lt).trans (hb.out.cell 0)]) ?_
    refine GW.bin (.int .i64 ((at_ + sz : Nat) : Int)) rfl trivial rfl (kn (t := 26) (j := 5) (by kernel_rfl)) (kn (t := 31) (j := 10) (by kernel_rfl)) (fun w' => by simp [go_sem, hwr]) ?_
    refine GW.op (isB ((X.b.drop at_).take sz)) rfl (isB_lasts _) trivial (fun a w' hg hkn => ?_) ?_
    · have h1 : a.eval (.tmp 24) = .slice X.Ab X.b.length X.cb := (kn (t := 24) (j := 3) (by kernel_rfl)) a w' hg hkn
      have h2 : a.eval (.tmp 25) = .int .i64 (at_ : Int) := (kn (t := 25) (j := 4) (by kernel_rfl)) a w' hg hkn
      have h3 : a.eval (.tmp 32) = .int .i64 ((at_ + sz : Nat) : Int) := (kn (t := 32) (j := 11) (by kernel_rfl)) a w' hg hkn
      rw [show (X.b.drop at_).take sz = (X.b.drop at_).take (at_ + sz - at_) by rw [Nat.add_sub_cancel_left]]
      exact res_slice2 (.tmp 24) (.tmp 25) (.tmp 32) Try.underlying22 byteSz rfl h1 h2 h3 (by omega) hwin hcb.out.1 hcb.out.2 ((hrb.out.below (Below.mono hg (Nat.le_of_lt hb.out.lt))).more (Nat.le_trans (Nat.le_of_lt hb.out.lt) hg.size))
    refine GW.call1 (eqv (sV (sign ((X.b.drop at_).take sz)))) rfl trivial rfl Try.func24 (by kernel_rfl) (by kernel_rfl) (eqv_lasts _) (kn (t := 33) (j := 12) (by kernel_rfl)) (fun v w' hg hv => ?_) ?_
    · obtain ⟨A8, c8, rfl, hc8, hm8, r8⟩ := hv
      refine (signOf_any A8 c8 ((X.b.drop at_).take sz) w' (by rw [List.length_take, List.length_drop]; omega) hc8 r8).mono ?_
      rintro e w9 ⟨rfl, hg9⟩
      exact ⟨_, rfl, rfl, hg9⟩
    refine GW.alloc #[.int .u32 0, .int .u64 0, .int .u64 0] rfl trivial rfl (fun w => by kernel_rfl) ?_
    refine GW.tail (m := 15) (by simp) (by kernel_rfl) (by kernel_rfl) (fun w4 hg4 => ?_)
    intro v0 _ v1 _ v2 _ v3 _ v4 _ v5 _ v6 _ v7 _ v8 _ v9 _ v10 _ v11 _ v12 _ v13 h13 v14 h14
    obtain rfl : v13 = (sV (sign ((X.b.drop at_).take sz))) := h13
    simp only [GFin, List.take_succ_cons, List.take_zero, List.drop_succ_cons, List.drop_zero, Act.put, List.setIfInBounds_toArray, List.set_cons_succ, List.set_cons_zero]
    obtain ⟨g9, rfl, hg9, n4⟩ := h14
    rw [hx]
    have lg := hb.out.lt
    go_wp2_with (first
      | ((with_reducible refine wpList_isStore 42 (.tmp 9) (.tmp 34) rfl ?_); refine wpList_store_blk rfl 42 (.tmp 9) (.tmp 34) rfl g9 #[.int .u32 (n32 x.1), .int .u64 (n64 x.2.1), .int .u64 (n64 x.2.2)] rfl rfl 42 _ n4 (signInfo _ _ _) rfl (by simp [Value.oneCell']) ?_; intro w5 n5 k5 z5; have G5 := Lib.hid (show Gr w w5 from Below.trans hg4 (Below.mono (Kb.below k5 (Nat.le_of_lt n4.lt)) hg9)); have hb5 := Lib.hid (k5.blk (blk_more hb.out hg4) (by omega)); replace n5 := Lib.hid n5; clear k5 z5 n4)
      | fail)
    have lgg : g ≤ w.heap.size := Nat.le_of_lt lg
    have own5 := Lib.hid (OR.below hown.out G5.out)
    have sr5 := Lib.hid (hsr.out.below (Below.mono G5.out lgg))
    have c8 := hb5.out.cell 8
    have c1 := hb5.out.cell 1
    clear hcb hrb hsr c6 hlk
    by_cases hl0 : 0 ≤ last
    · obtain ⟨ln, rfl⟩ : ∃ ln : Nat, last = (ln : Int) := ⟨last.toNat, by omega⟩
      by_cases hln : ln < X.s.bs.length
      · obtain ⟨adr, hadr, hlt, e0, e1, e2⟩ := sr5.out.at_ hln
        have hlt' := Nat.lt_of_lt_of_le hlt (Nat.le_trans lgg G5.out.size)
        replace hlt := hlt'
        obtain ⟨y, hy⟩ : ∃ y, X.s.bs[ln] = y := ⟨_, rfl⟩
        rw [hy] at e0 e1 e2
        have hye : X.s.bs[ln]? = some y := by rw [List.getElem?_eq_getElem hln, hy]
        cases hyx : (y == x) with
        | true =>
          have hr : whichP X.s.bs x (ln : Int) = some ln := by
            unfold whichP
            rw [if_pos ⟨by omega, by rw [Int.toNat_natCast, hye, eq_of_beq hyx]⟩, Int.toNat_natCast]
          obtain rfl : r = some ln := by rw [← hr0.out, hr]
          rw [hadr] at hb5 c1
          have hyx' := Lib.hid hyx
          clear hr hyx
          go_wp2
          refine region_grow rfl (by kernel_rfl) ?_
          refine GW.mv rfl trivial (.inl rfl) (kn0 (t := 0) (c := .pointer (some ⟨g, 0, none⟩)) (by kernel_rfl) rfl) (eqv_lasts _) ?_
          refine GW.p1 (.pointer (some ⟨g, 0, none⟩)) rfl trivial (kn (t := 35) (j := 0) (by kernel_rfl)) (fun ρ w' hρ hg => by simp [execOp, hρ, go_sem]) ?_
          refine GW.p1 (.pointer (some ⟨g, 8, none⟩)) rfl trivial (kn (t := 36) (j := 1) (by kernel_rfl)) (fun ρ w' hρ hg => by simp [execOp, hρ, go_sem]) ?_
          refine GW.p1 (.int .i64 (ln : Int)) rfl trivial (kn (t := 37) (j := 2) (by kernel_rfl)) (fun ρ w' hρ hg => by simp [execOp, hρ, go_sem, (hg.cell (p := ⟨g, 8, none⟩) hb5.out.lt).trans (hb5.out.cell 8)]) ?_
          refine GW.bin (.bool true) rfl trivial rfl (kn (t := 38) (j := 3) (by kernel_rfl)) knc (fun w' => by simp [go_sem]) ?_
          refine GW.mv rfl trivial (.inl rfl) (kn (t := 39) (j := 4) (by kernel_rfl)) (eqv_lasts _) ?_
          refine GW.mv rfl ⟨40, by kernel_rfl, by kernel_rfl, fun _ _ h => h⟩ (.inl rfl) (kn0 (t := 0) (c := .pointer (some ⟨g, 0, none⟩)) (by kernel_rfl) rfl) (eqv_lasts _) ?_
          refine GW.p1 (.pointer (some ⟨g, 0, none⟩)) rfl ⟨40, by kernel_rfl, by kernel_rfl, fun _ _ h => h⟩ (kn (t := 41) (j := 6) (by kernel_rfl)) (fun ρ w' hρ hg => by simp [execOp, hρ, go_sem]) ?_
          refine GW.p1 (.pointer (some ⟨g, 8, none⟩)) rfl ⟨40, by kernel_rfl, by kernel_rfl, fun _ _ h => h⟩ (kn (t := 42) (j := 7) (by kernel_rfl)) (fun ρ w' hρ hg => by simp [execOp, hρ, go_sem]) ?_
          refine GW.p1 (.int .i64 (ln : Int)) rfl ⟨40, by kernel_rfl, by kernel_rfl, fun _ _ h => h⟩ (kn (t := 43) (j := 8) (by kernel_rfl)) (fun ρ w' hρ hg => by simp [execOp, hρ, go_sem, (hg.cell (p := ⟨g, 8, none⟩) hb5.out.lt).trans (hb5.out.cell 8)]) ?_
          refine GW.mv rfl ⟨40, by kernel_rfl, by kernel_rfl, fun _ _ h => h⟩ (.inl rfl) (kn0 (t := 0) (c := .pointer (some ⟨g, 0, none⟩)) (by kernel_rfl) rfl) (eqv_lasts _) ?_
          refine GW.p1 (.pointer (some ⟨g, 0, none⟩)) rfl ⟨40, by kernel_rfl, by kernel_rfl, fun _ _ h => h⟩ (kn (t := 45) (j := 10) (by kernel_rfl)) (fun ρ w' hρ hg => by simp [execOp, hρ, go_sem]) ?_
          refine GW.p1 (.pointer (some ⟨g, 0, none⟩)) rfl ⟨40, by kernel_rfl, by kernel_rfl, fun _ _ h => h⟩ (kn (t := 46) (j := 11) (by kernel_rfl)) (fun ρ w' hρ hg => by simp [execOp, hρ, go_sem]) ?_
          refine GW.p1 (.pointer (some ⟨g, 1, none⟩)) rfl ⟨40, by kernel_rfl, by kernel_rfl, fun _ _ h => h⟩ (kn (t := 47) (j := 12) (by kernel_rfl)) (fun ρ w' hρ hg => by simp [execOp, hρ, go_sem]) ?_
          refine GW.p1 (.slice (some adr) X.s.bs.length X.c1) rfl ⟨40, by kernel_rfl, by kernel_rfl, fun _ _ h => h⟩ (kn (t := 48) (j := 13) (by kernel_rfl)) (fun ρ w' hρ hg => by simp [execOp, hρ, go_sem, (hg.cell (p := ⟨g, 1, none⟩) hb5.out.lt).trans (hb5.out.cell 1)]) ?_
          refine GW.lenV rfl ⟨40, by kernel_rfl, by kernel_rfl, fun _ _ h => h⟩ rfl Try.underlying41 (kn (t := 49) (j := 14) (by kernel_rfl)) ?_
          refine GW.bin (.bool true) rfl ⟨40, by kernel_rfl, by kernel_rfl, fun _ _ h => h⟩ rfl (kn (t := 44) (j := 9) (by kernel_rfl)) (kn (t := 50) (j := 15) (by kernel_rfl)) (fun w' => by simp [go_sem, hln]) ?_
          refine GW.pick (b := true) rfl trivial rfl (kn (t := 40) (j := 5) (by kernel_rfl)) (kn (t := 51) (j := 16) (by kernel_rfl)) (eqv_lasts _) ?_
          refine GW.mv rfl trivial (.inl rfl) (kn (t := 52) (j := 17) (by kernel_rfl)) (eqv_lasts _) ?_
          refine GW.mv rfl ⟨53, by kernel_rfl, by kernel_rfl, fun _ _ h => h⟩ (.inl rfl) (kn0 (t := 0) (c := .pointer (some ⟨g, 0, none⟩)) (by kernel_rfl) rfl) (eqv_lasts _) ?_
          refine GW.p1 (.pointer (some ⟨g, 0, none⟩)) rfl ⟨53, by kernel_rfl, by kernel_rfl, fun _ _ h => h⟩ (kn (t := 54) (j := 19) (by kernel_rfl)) (fun ρ w' hρ hg => by simp [execOp, hρ, go_sem]) ?_
          refine GW.p1 (.pointer (some ⟨g, 0, none⟩)) rfl ⟨53, by kernel_rfl, by kernel_rfl, fun _ _ h => h⟩ (kn (t := 55) (j := 20) (by kernel_rfl)) (fun ρ w' hρ hg => by simp [execOp, hρ, go_sem]) ?_
          refine GW.p1 (.pointer (some ⟨g, 1, none⟩)) rfl ⟨53, by kernel_rfl, by kernel_rfl, fun _ _ h => h⟩ (kn (t := 56) (j := 21) (by kernel_rfl)) (fun ρ w' hρ hg => by simp [execOp, hρ, go_sem]) ?_
          refine GW.p1 (.slice (some adr) X.s.bs.length X.c1) rfl ⟨53, by kernel_rfl, by kernel_rfl, fun _ _ h => h⟩ (kn (t := 57) (j := 22) (by kernel_rfl)) (fun ρ w' hρ hg => by simp [execOp, hρ, go_sem, (hg.cell (p := ⟨g, 1, none⟩) hb5.out.lt).trans (hb5.out.cell 1)]) ?_
          refine GW.mv rfl ⟨53, by kernel_rfl, by kernel_rfl, fun _ _ h => h⟩ (.inl rfl) (kn0 (t := 0) (c := .pointer (some ⟨g, 0, none⟩)) (by kernel_rfl) rfl) (eqv_lasts _) ?_
          refine GW.p1 (.pointer (some ⟨g, 0, none⟩)) rfl ⟨53, by kernel_rfl, by kernel_rfl, fun _ _ h => h⟩ (kn (t := 59) (j := 24) (by kernel_rfl)) (fun ρ w' hρ hg => by simp [execOp, hρ, go_sem]) ?_
          refine GW.p1 (.pointer (some ⟨g, 8, none⟩)) rfl ⟨53, by kernel_rfl, by kernel_rfl, fun _ _ h => h⟩ (kn (t := 60) (j := 25) (by kernel_rfl)) (fun ρ w' hρ hg => by simp [execOp, hρ, go_sem]) ?_
          refine GW.p1 (.int .i64 (ln : Int)) rfl ⟨53, by kernel_rfl, by kernel_rfl, fun _ _ h => h⟩ (kn (t := 61) (j := 26) (by kernel_rfl)) (fun ρ w' hρ hg => by simp [execOp, hρ, go_sem, (hg.cell (p := ⟨g, 8, none⟩) hb5.out.lt).trans (hb5.out.cell 8)]) ?_
          refine GW.p2 (.pointer (some (adr.add (ln * 3)))) rfl ⟨53, by kernel_rfl, by kernel_rfl, fun _ _ h => h⟩ (kn (t := 58) (j := 23) (by kernel_rfl)) (kn (t := 62) (j := 27) (by kernel_rfl)) (fun ρ w' h1 h2 hg => by show ((Instr.indexAt 41 (ρ (.tmp 58)) (ρ (.tmp 62)) >>= fun v => pure (Next.value v)) : Sem Next).run Try.prog w' = _; rw [h1, h2, Sem.run_bind, run_idxR w' Try.underlying41 (size := 3) (by kernel_rfl) adr _ _ ln hln]; simp) ?_
          refine GW.p1 (.agg #[.int .u32 (n32 y.1), .int .u64 (n64 y.2.1), .int .u64 (n64 y.2.2)]) rfl ⟨53, by kernel_rfl, by kernel_rfl, fun _ _ h => h⟩ (kn (t := 63) (j := 28) (by kernel_rfl)) (fun ρ w' hρ hg => by simp [execOp, hρ, go_sem, (hg.cell (p := (adr.add (ln * 3))) (by rw [block_of_add]; exact hlt)).trans e0, (hg.cell (p := ⟨(adr.add (ln * 3)).block, (adr.add (ln * 3)).off + 1, none⟩) (by rw [block_of_add]; exact hlt)).trans e1, (hg.cell (p := ⟨(adr.add (ln * 3)).block, (adr.add (ln * 3)).off + 2, none⟩) (by rw [block_of_add]; exact hlt)).trans e2]) ?_
          refine GW.p1 (.agg #[.int .u32 (n32 x.1), .int .u64 (n64 x.2.1), .int .u64 (n64 x.2.2)]) rfl ⟨53, by kernel_rfl, by kernel_rfl, fun _ _ h => h⟩ (kn0 (t := 9) (c := .pointer (some ⟨g9, 0, none⟩)) (by kernel_rfl) rfl) (fun ρ w' hρ hg => by simp [execOp, hρ, go_sem, (hg.cell (p := ⟨g9, 0, none⟩) n5.out.lt).trans (n5.out.cell 0), (hg.cell (p := ⟨g9, 1, none⟩) n5.out.lt).trans (n5.out.cell 1), (hg.cell (p := ⟨g9, 2, none⟩) n5.out.lt).trans (n5.out.cell 2)]) ?_
          refine GW.bin (.bool (y == x)) rfl ⟨53, by kernel_rfl, by kernel_rfl, fun _ _ h => h⟩ rfl (kn (t := 64) (j := 29) (by kernel_rfl)) (kn (t := 65) (j := 30) (by kernel_rfl)) (fun w' => (run_eql_sign _ (.inl rfl) y x _ _ w').1) ?_
          refine GW.pick (b := true) rfl trivial rfl (kn (t := 53) (j := 18) (by kernel_rfl)) (kn (t := 66) (j := 31) (by kernel_rfl)) (eqv_lasts _) ?_
          refine GW.done (by simp) (by kernel_rfl) (fun w6 hg6 => ?_)
          intro v0 _ v1 _ v2 _ v3 _ v4 _ v5 _ v6 _ v7 _ v8 _ v9 _ v10 _ v11 _ v12 _ v13 _ v14 _ v15 _ v16 _ v17 _ v18 _ v19 _ v20 _ v21 _ v22 _ v23 _ v24 _ v25 _ v26 _ v27 _ v28 _ v29 _ v30 _ v31 _ v32 h32
          obtain rfl : v32 = (.bool (y == x)) := h32
          simp only [GFin, Act.put, List.setIfInBounds_toArray, List.set_cons_succ, List.set_cons_zero]
          rw [hyx'.out]
          have c86 := (hg6.cell (p := ⟨g, 8, none⟩) hb5.out.lt).trans c8
          go_wp2
          go_ret2
          exact ⟨rfl, G5.out.trans hg6⟩
        | false =>
          have hno : ¬ (0 ≤ (ln : Int) ∧ X.s.bs[(ln : Int).toNat]? = some x) := fun h => by
            rw [Int.toNat_natCast, hye] at h
            have := Option.some.inj h.2
            rw [this] at hyx
            simp at hyx
          have hr : whichP X.s.bs x (ln : Int) = X.s.bs.findIdx? (· == x) := by unfold whichP; rw [if_neg hno]
          replace hr := hr0.out.symm.trans hr
          rw [hadr] at hb5 c1
          have hyx' := Lib.hid hyx
          clear hyx hno
          go_wp2
          refine region_grow rfl (by kernel_rfl) ?_
          refine GW.mv rfl trivial (.inl rfl) (kn0 (t := 0) (c := .pointer (some ⟨g, 0, none⟩)) (by kernel_rfl) rfl) (eqv_lasts _) ?_
          refine GW.p1 (.pointer (some ⟨g, 0, none⟩)) rfl trivial (kn (t := 35) (j := 0) (by kernel_rfl)) (fun ρ w' hρ hg => by simp [execOp, hρ, go_sem]) ?_
          refine GW.p1 (.pointer (some ⟨g, 8, none⟩)) rfl trivial (kn (t := 36) (j := 1) (by kernel_rfl)) (fun ρ w' hρ hg => by simp [execOp, hρ, go_sem]) ?_
          refine GW.p1 (.int .i64 (ln : Int)) rfl trivial (kn (t := 37) (j := 2) (by kernel_rfl)) (fun ρ w' hρ hg => by simp [execOp, hρ, go_sem, (hg.cell (p := ⟨g, 8, none⟩) hb5.out.lt).trans (hb5.out.cell 8)]) ?_
          refine GW.bin (.bool true) rfl trivial rfl (kn (t := 38) (j := 3) (by kernel_rfl)) knc (fun w' => by simp [go_sem]) ?_
          refine GW.mv rfl trivial (.inl rfl) (kn (t := 39) (j := 4) (by kernel_rfl)) (eqv_lasts _) ?_
          refine GW.mv rfl ⟨40, by kernel_rfl, by kernel_rfl, fun _ _ h => h⟩ (.inl rfl) (kn0 (t := 0) (c := .pointer (some ⟨g, 0, none⟩)) (by kernel_rfl) rfl) (eqv_lasts _) ?_
          refine GW.p1 (.pointer (some ⟨g, 0, none⟩)) rfl ⟨40, by kernel_rfl, by kernel_rfl, fun _ _ h => h⟩ (kn (t := 41) (j := 6) (by kernel_rfl)) (fun ρ w' hρ hg => by simp [execOp, hρ, go_sem]) ?_
          refine GW.p1 (.pointer (some ⟨g, 8, none⟩)) rfl ⟨40, by kernel_rfl, by kernel_rfl, fun _ _ h => h⟩ (kn (t := 42) (j := 7) (by kernel_rfl)) (fun ρ w' hρ hg => by simp [execOp, hρ, go_sem]) ?_
          refine GW.p1 (.int .i64 (ln : Int)) rfl ⟨40, by kernel_rfl, by kernel_rfl, fun _ _ h => h⟩ (kn (t := 43) (j := 8) (by kernel_rfl)) (fun ρ w' hρ hg => by simp [execOp, hρ, go_sem, (hg.cell (p := ⟨g, 8, none⟩) hb5.out.lt).trans (hb5.out.cell 8)]) ?_
          refine GW.mv rfl ⟨40, by kernel_rfl, by kernel_rfl, fun _ _ h => h⟩ (.inl rfl) (kn0 (t := 0) (c := .pointer (some ⟨g, 0, none⟩)) (by kernel_rfl) rfl) (eqv_lasts _) ?_
          refine GW.p1 (.pointer (some ⟨g, 0, none⟩)) rfl ⟨40, by kernel_rfl, by kernel_rfl, fun _ _ h => h⟩ (kn (t := 45) (j := 10) (by kernel_rfl)) (fun ρ w' hρ hg => by simp [execOp, hρ, go_sem]) ?_
          refine GW.p1 (.pointer (some ⟨g, 0, none⟩)) rfl ⟨40, by kernel_rfl, by kernel_rfl, fun _ _ h => h⟩ (kn (t := 46) (j := 11) (by kernel_rfl)) (fun ρ w' hρ hg => by simp [execOp, hρ, go_sem]) ?_
          refine GW.p1 (.pointer (some ⟨g, 1, none⟩)) rfl ⟨40, by kernel_rfl, by kernel_rfl, fun _ _ h => h⟩ (kn (t := 47) (j := 12) (by kernel_rfl)) (fun ρ w' hρ hg => by simp [execOp, hρ, go_sem]) ?_
          refine GW.p1 (.slice (some adr) X.s.bs.length X.c1) rfl ⟨40, by kernel_rfl, by kernel_rfl, fun _ _ h => h⟩ (kn (t := 48) (j := 13) (by kernel_rfl)) (fun ρ w' hρ hg => by simp [execOp, hρ, go_sem, (hg.cell (p := ⟨g, 1, none⟩) hb5.out.lt).trans (hb5.out.cell 1)]) ?_
          refine GW.lenV rfl ⟨40, by kernel_rfl, by kernel_rfl, fun _ _ h => h⟩ rfl Try.underlying41 (kn (t := 49) (j := 14) (by kernel_rfl)) ?_
          refine GW.bin (.bool true) rfl ⟨40, by kernel_rfl, by kernel_rfl, fun _ _ h => h⟩ rfl (kn (t := 44) (j := 9) (by kernel_rfl)) (kn (t := 50) (j := 15) (by kernel_rfl)) (fun w' => by simp [go_sem, hln]) ?_
          refine GW.pick (b := true) rfl trivial rfl (kn (t := 40) (j := 5) (by kernel_rfl)) (kn (t := 51) (j := 16) (by kernel_rfl)) (eqv_lasts _) ?_
          refine GW.mv rfl trivial (.inl rfl) (kn (t := 52) (j := 17) (by kernel_rfl)) (eqv_lasts _) ?_
          refine GW.mv rfl ⟨53, by kernel_rfl, by kernel_rfl, fun _ _ h => h⟩ (.inl rfl) (kn0 (t := 0) (c := .pointer (some ⟨g, 0, none⟩)) (by kernel_rfl) rfl) (eqv_lasts _) ?_
          refine GW.p1 (.pointer (some ⟨g, 0, none⟩)) rfl ⟨53, by kernel_rfl, by kernel_rfl, fun _ _ h => h⟩ (kn (t := 54) (j := 19) (by kernel_rfl)) (fun ρ w' hρ hg => by simp [execOp, hρ, go_sem]) ?_
          refine GW.p1 (.pointer (some ⟨g, 0, none⟩)) rfl ⟨53, by kernel_rfl, by kernel_rfl, fun _ _ h => h⟩ (kn (t := 55) (j := 20) (by kernel_rfl)) (fun ρ w' hρ hg => by simp [execOp, hρ, go_sem]) ?_
          refine GW.p1 (.pointer (some ⟨g, 1, none⟩)) rfl ⟨53, by kernel_rfl, by kernel_rfl, fun _ _ h => h⟩ (kn (t := 56) (j := 21) (by kernel_rfl)) (fun ρ w' hρ hg => by simp [execOp, hρ, go_sem]) ?_
          refine GW.p1 (.slice (some adr) X.s.bs.length X.c1) rfl ⟨53, by kernel_rfl, by kernel_rfl, fun _ _ h => h⟩ (kn (t := 57) (j := 22) (by kernel_rfl)) (fun ρ w' hρ hg => by simp [execOp, hρ, go_sem, (hg.cell (p := ⟨g, 1, none⟩) hb5.out.lt).trans (hb5.out.cell 1)]) ?_
          refine GW.mv rfl ⟨53, by kernel_rfl, by kernel_rfl, fun _ _ h => h⟩ (.inl rfl) (kn0 (t := 0) (c := .pointer (some ⟨g, 0, none⟩)) (by kernel_rfl) rfl) (eqv_lasts _) ?_
          refine GW.p1 (.pointer (some ⟨g, 0, none⟩)) rfl ⟨53, by kernel_rfl, by kernel_rfl, fun _ _ h => h⟩ (kn (t := 59) (j := 24) (by kernel_rfl)) (fun ρ w' hρ hg => by simp [execOp, hρ, go_sem]) ?_
          refine GW.p1 (.pointer (some ⟨g, 8, none⟩)) rfl ⟨53, by kernel_rfl, by kernel_rfl, fun _ _ h => h⟩ (kn (t := 60) (j := 25) (by kernel_rfl)) (fun ρ w' hρ hg => by simp [execOp, hρ, go_sem]) ?_
          refine GW.p1 (.int .i64 (ln : Int)) rfl ⟨53, by kernel_rfl, by kernel_rfl, fun _ _ h => h⟩ (kn (t := 61) (j := 26) (by kernel_rfl)) (fun ρ w' hρ hg => by simp [execOp, hρ, go_sem, (hg.cell (p := ⟨g, 8, none⟩) hb5.out.lt).trans (hb5.out.cell 8)]) ?_
          refine GW.p2 (.pointer (some (adr.add (ln * 3)))) rfl ⟨53, by kernel_rfl, by kernel_rfl, fun _ _ h => h⟩ (kn (t := 58) (j := 23) (by kernel_rfl)) (kn (t := 62) (j := 27) (by kernel_rfl)) (fun ρ w' h1 h2 hg => by show ((Instr.indexAt 41 (ρ (.tmp 58)) (ρ (.tmp 62)) >>= fun v => pure (Next.value v)) : Sem Next).run Try.prog w' = _; rw [h1, h2, Sem.run_bind, run_idxR w' Try.underlying41 (size := 3) (by kernel_rfl) adr _ _ ln hln]; simp) ?_
          refine GW.p1 (.agg #[.int .u32 (n32 y.1), .int .u64 (n64 y.2.1), .int .u64 (n64 y.2.2)]) rfl ⟨53, by kernel_rfl, by kernel_rfl, fun _ _ h => h⟩ (kn (t := 63) (j := 28) (by kernel_rfl)) (fun ρ w' hρ hg => by simp [execOp, hρ, go_sem, (hg.cell (p := (adr.add (ln * 3))) (by rw [block_of_add]; exact hlt)).trans e0, (hg.cell (p := ⟨(adr.add (ln * 3)).block, (adr.add (ln * 3)).off + 1, none⟩) (by rw [block_of_add]; exact hlt)).trans e1, (hg.cell (p := ⟨(adr.add (ln * 3)).block, (adr.add (ln * 3)).off + 2, none⟩) (by rw [block_of_add]; exact hlt)).trans e2]) ?_
          refine GW.p1 (.agg #[.int .u32 (n32 x.1), .int .u64 (n64 x.2.1), .int .u64 (n64 x.2.2)]) rfl ⟨53, by kernel_rfl, by kernel_rfl, fun _ _ h => h⟩ (kn0 (t := 9) (c := .pointer (some ⟨g9, 0, none⟩)) (by kernel_rfl) rfl) (fun ρ w' hρ hg => by simp [execOp, hρ, go_sem, (hg.cell (p := ⟨g9, 0, none⟩) n5.out.lt).trans (n5.out.cell 0), (hg.cell (p := ⟨g9, 1, none⟩) n5.out.lt).trans (n5.out.cell 1), (hg.cell (p := ⟨g9, 2, none⟩) n5.out.lt).trans (n5.out.cell 2)]) ?_
          refine GW.bin (.bool (y == x)) rfl ⟨53, by kernel_rfl, by kernel_rfl, fun _ _ h => h⟩ rfl (kn (t := 64) (j := 29) (by kernel_rfl)) (kn (t := 65) (j := 30) (by kernel_rfl)) (fun w' => (run_eql_sign _ (.inl rfl) y x _ _ w').1) ?_
          refine GW.pick (b := true) rfl trivial rfl (kn (t := 53) (j := 18) (by kernel_rfl)) (kn (t := 66) (j := 31) (by kernel_rfl)) (eqv_lasts _) ?_
          refine GW.done (by simp) (by kernel_rfl) (fun w6 hg6 => ?_)
          intro v0 _ v1 _ v2 _ v3 _ v4 _ v5 _ v6 _ v7 _ v8 _ v9 _ v10 _ v11 _ v12 _ v13 _ v14 _ v15 _ v16 _ v17 _ v18 _ v19 _ v20 _ v21 _ v22 _ v23 _ v24 _ v25 _ v26 _ v27 _ v28 _ v29 _ v30 _ v31 _ v32 h32
          obtain rfl : v32 = (.bool (y == x)) := h32
          simp only [GFin, Act.put, List.setIfInBounds_toArray, List.set_cons_succ, List.set_cons_zero]
          rw [hyx'.out]
          have GVV := hg6
          have lg5 : g ≤ w5.heap.size := Nat.le_trans lgg G5.out.size
          rw [← hadr] at hb5
          clear e0 e1 e2
          have GV := G5.out.trans hg6
          have hbV := Lib.hid (blk_more hb5.out GVV)
          have n9V := Lib.hid (blk_more n5.out GVV)
          have ownV := Lib.hid (OR.below own5.out GVV)
          have srV := Lib.hid (sr5.out.below (Below.mono GVV lg5))
          have lgV : g ≤ w6.heap.size := Nat.le_trans lg5 GVV.size
          replace GV := Lib.hid GV
          clear GVV hb5 n5 own5 sr5 c8 c1
          go_wp2
          go_loopw [11, 74] (fun _ i wr => ∃ j : Nat, j ≤ (weakIdx X.s.bs x.1).length ∧ i = .int .i64 (j : Int) ∧ Hid (∀ i, i < j → (hj : i < (weakIdx X.s.bs x.1).length) → X.s.bs[((weakIdx X.s.bs x.1)[i]).toNat]? ≠ some x) ∧ Hid (Gr w6 wr)) (fun _ i _ => (weakIdx X.s.bs x.1).length - (intOf i).toNat)
          case atStart => exact ⟨0, by omega, rfl, Lib.hid (fun i hi => absurd hi (by omega)), Lib.hid (Gr.refl _)⟩
          case round =>
            obtain ⟨j, hj, rfl, hpre, gv⟩ := hrel
            by_cases hjl : j < (weakIdx X.s.bs x.1).length
            · obtain ⟨k, hkl, hke, hkw⟩ := mem_weakIdx.1 (List.getElem_mem hjl)
              have ownW := OR.below ownV.out gv.out
              obtain ⟨adl, rfl, hll, hcl⟩ := (OR.reads ownW).2 (by omega)
              have ck := hcl j (.int .i64 (k : Int)) (by rw [List.getElem?_map, List.getElem?_eq_getElem hjl, hke]; rfl)
              obtain ⟨adr, hadr, hlt, e0, e1, e2⟩ := (srV.out.below (Below.mono gv.out lgV)).at_ hkl
              replace hlt := Nat.lt_of_lt_of_le hlt (Nat.le_trans lgV gv.out.size)
              obtain ⟨y, hy⟩ : ∃ y, X.s.bs[k] = y := ⟨_, rfl⟩
              rw [hy] at e0 e1 e2
              have hye : X.s.bs[k]? = some y := by rw [List.getElem?_eq_getElem hkl, hy]
              have hb7 := blk_more hbV.out gv.out
              rw [hadr] at hb7
              replace hb7 := Lib.hid hb7
              have n7 := Lib.hid (blk_more n9V.out gv.out)
              have ij1 : (j : Int) < ((weakIdx X.s.bs x.1).length : Int) := by omega
              have hkeH := Lib.hid hke
              have hyeH := Lib.hid hye
              clear ownW hcl hke hye
              go_wp2
              refine region_grow rfl (by kernel_rfl) ?_
              refine GW.mv rfl trivial (.inl rfl) (kn0 (t := 0) (c := .pointer (some ⟨g, 0, none⟩)) (by kernel_rfl) rfl) (eqv_lasts _) ?_
              refine GW.p1 (.pointer (some ⟨g, 0, none⟩)) rfl trivial (kn (t := 78) (j := 0) (by kernel_rfl)) (fun ρ w' hρ hg => by simp [execOp, hρ, go_sem]) ?_
              refine GW.p1 (.pointer (some ⟨g, 0, none⟩)) rfl trivial (kn (t := 79) (j := 1) (by kernel_rfl)) (fun ρ w' hρ hg => by simp [execOp, hρ, go_sem]) ?_
              refine GW.p1 (.pointer (some ⟨g, 1, none⟩)) rfl trivial (kn (t := 80) (j := 2) (by kernel_rfl)) (fun ρ w' hρ hg => by simp [execOp, hρ, go_sem]) ?_
              refine GW.p1 (.slice (some adr) X.s.bs.length X.c1) rfl trivial (kn (t := 81) (j := 3) (by kernel_rfl)) (fun ρ w' hρ hg => by simp [execOp, hρ, go_sem, (hg.cell (p := ⟨g, 1, none⟩) hb7.out.lt).trans (hb7.out.cell 1)]) ?_
              refine GW.mv rfl trivial (.inl rfl) (kn0 (t := 11) (c := .int .i64 (k : Int)) (by kernel_rfl) rfl) (eqv_lasts _) ?_
              refine GW.p2 (.pointer (some (adr.add (k * 3)))) rfl trivial (kn (t := 82) (j := 4) (by kernel_rfl)) (kn (t := 83) (j := 5) (by kernel_rfl)) (fun ρ w' h1 h2 hg => by show ((Instr.indexAt 41 (ρ (.tmp 82)) (ρ (.tmp 83)) >>= fun v => pure (Next.value v)) : Sem Next).run Try.prog w' = _; rw [h1, h2, Sem.run_bind, run_idxR w' Try.underlying41 (size := 3) (by kernel_rfl) adr _ _ k hkl]; simp) ?_
              refine GW.p1 (.agg #[.int .u32 (n32 y.1), .int .u64 (n64 y.2.1), .int .u64 (n64 y.2.2)]) rfl trivial (kn (t := 84) (j := 6) (by kernel_rfl)) (fun ρ w' hρ hg => by simp [execOp, hρ, go_sem, (hg.cell (p := (adr.add (k * 3))) (by rw [block_of_add]; exact hlt)).trans e0, (hg.cell (p := ⟨(adr.add (k * 3)).block, (adr.add (k * 3)).off + 1, none⟩) (by rw [block_of_add]; exact hlt)).trans e1, (hg.cell (p := ⟨(adr.add (k * 3)).block, (adr.add (k * 3)).off + 2, none⟩) (by rw [block_of_add]; exact hlt)).trans e2]) ?_
              refine GW.p1 (.agg #[.int .u32 (n32 x.1), .int .u64 (n64 x.2.1), .int .u64 (n64 x.2.2)]) rfl trivial (kn0 (t := 9) (c := .pointer (some ⟨g9, 0, none⟩)) (by kernel_rfl) rfl) (fun ρ w' hρ hg => by simp [execOp, hρ, go_sem, (hg.cell (p := ⟨g9, 0, none⟩) n7.out.lt).trans (n7.out.cell 0), (hg.cell (p := ⟨g9, 1, none⟩) n7.out.lt).trans (n7.out.cell 1), (hg.cell (p := ⟨g9, 2, none⟩) n7.out.lt).trans (n7.out.cell 2)]) ?_
              refine GW.bin (.bool (y == x)) rfl trivial rfl (kn (t := 85) (j := 7) (by kernel_rfl)) (kn (t := 86) (j := 8) (by kernel_rfl)) (fun w' => (run_eql_sign _ (.inl rfl) y x _ _ w').1) ?_
              refine GW.done (by simp) (by kernel_rfl) (fun w7 hg7 => ?_)
              intro v0 _ v1 _ v2 _ v3 _ v4 _ v5 _ v6 _ v7 _ v8 _ v9 h9
              obtain rfl : v9 = (.bool (y == x)) := h9
              simp only [GFin, Act.put, List.setIfInBounds_toArray, List.set_cons_succ, List.set_cons_zero]
              cases hyx : (y == x) with
              | true =>
                obtain rfl : r = some k := by
                  rw [hr]
                  refine weakIdx_first hjl k hkeH.out (by rw [hyeH.out, eq_of_beq hyx]) fun i hi => hpre.out i hi (by omega)
                go_wp2
                go_ret2
                exact ⟨rfl, GV.out.trans (gv.out.trans hg7)⟩
              | false =>
                have hpre2 := Lib.hid (fun i (hi : i < j + 1) (hj2 : i < (weakIdx X.s.bs x.1).length) => (by
                  rcases Nat.lt_or_ge i j with h1 | h1
                  · exact hpre.out i h1 hj2
                  · have e : i = j := by omega
                    subst e
                    intro h
                    rw [hkeH.out, Int.toNat_natCast, hyeH.out] at h
                    rw [Option.some.inj h] at hyx
                    simp at hyx : X.s.bs[((weakIdx X.s.bs x.1)[i]).toNat]? ≠ some x))
                go_wp2
                exact ⟨⟨j + 1, by omega, by go_num, hpre2, Lib.hid (gv.out.trans hg7)⟩, by simp [intOf]; omega⟩
            · obtain rfl : j = (weakIdx X.s.bs x.1).length := by omega
              obtain rfl : r = none := by
                rw [hr]
                refine weakIdx_none fun i hi => ?_
                obtain ⟨m, hm, rfl⟩ := List.getElem_of_mem hi
                exact hpre.out m hm hm
              go_wp2
              go_ret2
              exact ⟨rfl, GV.out.trans gv.out⟩
      · have hr : r = X.s.bs.findIdx? (· == x) := by
          rw [← hr0.out]
          unfold whichP
          rw [if_neg]
          rintro ⟨_, h⟩
          rw [Int.toNat_natCast, List.getElem?_eq_none (by omega)] at h
          cases h
        have hln2 : X.s.bs.length ≤ ln := by omega
        go_wp2
        refine region_grow rfl (by kernel_rfl) ?_
        refine GW.mv rfl trivial (.inl rfl) (kn0 (t := 0) (c := .pointer (some ⟨g, 0, none⟩)) (by kernel_rfl) rfl) (eqv_lasts _) ?_
        refine GW.p1 (.pointer (some ⟨g, 0, none⟩)) rfl trivial (kn (t := 35) (j := 0) (by kernel_rfl)) (fun ρ w' hρ hg => by simp [execOp, hρ, go_sem]) ?_
        refine GW.p1 (.pointer (some ⟨g, 8, none⟩)) rfl trivial (kn (t := 36) (j := 1) (by kernel_rfl)) (fun ρ w' hρ hg => by simp [execOp, hρ, go_sem]) ?_
        refine GW.p1 (.int .i64 (ln : Int)) rfl trivial (kn (t := 37) (j := 2) (by kernel_rfl)) (fun ρ w' hρ hg => by simp [execOp, hρ, go_sem, (hg.cell (p := ⟨g, 8, none⟩) hb5.out.lt).trans (hb5.out.cell 8)]) ?_
        refine GW.bin (.bool true) rfl trivial rfl (kn (t := 38) (j := 3) (by kernel_rfl)) knc (fun w' => by simp [go_sem]) ?_
        refine GW.mv rfl trivial (.inl rfl) (kn (t := 39) (j := 4) (by kernel_rfl)) (eqv_lasts _) ?_
        refine GW.mv rfl ⟨40, by kernel_rfl, by kernel_rfl, fun _ _ h => h⟩ (.inl rfl) (kn0 (t := 0) (c := .pointer (some ⟨g, 0, none⟩)) (by kernel_rfl) rfl) (eqv_lasts _) ?_
        refine GW.p1 (.pointer (some ⟨g, 0, none⟩)) rfl ⟨40, by kernel_rfl, by kernel_rfl, fun _ _ h => h⟩ (kn (t := 41) (j := 6) (by kernel_rfl)) (fun ρ w' hρ hg => by simp [execOp, hρ, go_sem]) ?_
        refine GW.p1 (.pointer (some ⟨g, 8, none⟩)) rfl ⟨40, by kernel_rfl, by kernel_rfl, fun _ _ h => h⟩ (kn (t := 42) (j := 7) (by kernel_rfl)) (fun ρ w' hρ hg => by simp [execOp, hρ, go_sem]) ?_
        refine GW.p1 (.int .i64 (ln : Int)) rfl ⟨40, by kernel_rfl, by kernel_rfl, fun _ _ h => h⟩ (kn (t := 43) (j := 8) (by kernel_rfl)) (fun ρ w' hρ hg => by simp [execOp, hρ, go_sem, (hg.cell (p := ⟨g, 8, none⟩) hb5.out.lt).trans (hb5.out.cell 8)]) ?_
        refine GW.mv rfl ⟨40, by kernel_rfl, by kernel_rfl, fun _ _ h => h⟩ (.inl rfl) (kn0 (t := 0) (c := .pointer (some ⟨g, 0, none⟩)) (by kernel_rfl) rfl) (eqv_lasts _) ?_
        refine GW.p1 (.pointer (some ⟨g, 0, none⟩)) rfl ⟨40, by kernel_rfl, by kernel_rfl, fun _ _ h => h⟩ (kn (t := 45) (j := 10) (by kernel_rfl)) (fun ρ w' hρ hg => by simp [execOp, hρ, go_sem]) ?_
        refine GW.p1 (.pointer (some ⟨g, 0, none⟩)) rfl ⟨40, by kernel_rfl, by kernel_rfl, fun _ _ h => h⟩ (kn (t := 46) (j := 11) (by kernel_rfl)) (fun ρ w' hρ hg => by simp [execOp, hρ, go_sem]) ?_
        refine GW.p1 (.pointer (some ⟨g, 1, none⟩)) rfl ⟨40, by kernel_rfl, by kernel_rfl, fun _ _ h => h⟩ (kn (t := 47) (j := 12) (by kernel_rfl)) (fun ρ w' hρ hg => by simp [execOp, hρ, go_sem]) ?_
        refine GW.p1 (.slice X.A1 X.s.bs.length X.c1) rfl ⟨40, by kernel_rfl, by kernel_rfl, fun _ _ h => h⟩ (kn (t := 48) (j := 13) (by kernel_rfl)) (fun ρ w' hρ hg => by simp [execOp, hρ, go_sem, (hg.cell (p := ⟨g, 1, none⟩) hb5.out.lt).trans (hb5.out.cell 1)]) ?_
        refine GW.lenV rfl ⟨40, by kernel_rfl, by kernel_rfl, fun _ _ h => h⟩ rfl Try.underlying41 (kn (t := 49) (j := 14) (by kernel_rfl)) ?_
        refine GW.bin (.bool false) rfl ⟨40, by kernel_rfl, by kernel_rfl, fun _ _ h => h⟩ rfl (kn (t := 44) (j := 9) (by kernel_rfl)) (kn (t := 50) (j := 15) (by kernel_rfl)) (fun w' => by simp [go_sem]; omega) ?_
        refine GW.pick (b := true) rfl trivial rfl (kn (t := 40) (j := 5) (by kernel_rfl)) (kn (t := 51) (j := 16) (by kernel_rfl)) (eqv_lasts _) ?_
        refine GW.mv rfl trivial (.inl rfl) (kn (t := 52) (j := 17) (by kernel_rfl)) (eqv_lasts _) ?_
        refine GW.skip rfl rfl (d := 53) (by kernel_rfl) (by kernel_rfl) (fun _ _ h => .inl h) ?_
        refine GW.skip rfl rfl (d := 53) (by kernel_rfl) (by kernel_rfl) (fun _ _ h => .inl h) ?_
        refine GW.skip rfl rfl (d := 53) (by kernel_rfl) (by kernel_rfl) (fun _ _ h => .inl h) ?_
        refine GW.skip rfl rfl (d := 53) (by kernel_rfl) (by kernel_rfl) (fun _ _ h => .inl h) ?_
        refine GW.skip rfl rfl (d := 53) (by kernel_rfl) (by kernel_rfl) (fun _ _ h => .inl h) ?_
        refine GW.skip rfl rfl (d := 53) (by kernel_rfl) (by kernel_rfl) (fun _ _ h => .inl h) ?_
        refine GW.skip rfl rfl (d := 53) (by kernel_rfl) (by kernel_rfl) (fun _ _ h => .inl h) ?_
        refine GW.skip rfl rfl (d := 53) (by kernel_rfl) (by kernel_rfl) (fun _ _ h => .inl h) ?_
        refine GW.skip rfl rfl (d := 53) (by kernel_rfl) (by kernel_rfl) (fun _ _ h => .inl h) ?_
        refine GW.skip rfl rfl (d := 53) (by kernel_rfl) (by kernel_rfl) (fun _ _ h => .inl h) ?_
        refine GW.skip rfl rfl (d := 53) (by kernel_rfl) (by kernel_rfl) (fun _ _ h => .inl h) ?_
        refine GW.skip rfl rfl (d := 53) (by kernel_rfl) (by kernel_rfl) (fun _ _ h => .inl h) ?_
        refine GW.skip rfl rfl (d := 53) (by kernel_rfl) (by kernel_rfl) (fun _ _ h => .inl h) ?_
        refine GW.pick (b := false) rfl trivial rfl (kn (t := 53) (j := 18) (by kernel_rfl)) (knc) (eqv_lasts _) ?_
        refine GW.done (by simp) (by kernel_rfl) (fun w6 hg6 => ?_)
        intro v0 _ v1 _ v2 _ v3 _ v4 _ v5 _ v6 _ v7 _ v8 _ v9 _ v10 _ v11 _ v12 _ v13 _ v14 _ v15 _ v16 _ v17 _ v18 _ v19 _ v20 _ v21 _ v22 _ v23 _ v24 _ v25 _ v26 _ v27 _ v28 _ v29 _ v30 _ v31 _ v32 h32
        obtain rfl : v32 = (Value.bool false) := h32
        simp only [GFin, Act.put, List.setIfInBounds_toArray, List.set_cons_succ, List.set_cons_zero]
        have GVV := hg6
        have lg5 : g ≤ w5.heap.size := Nat.le_trans lgg G5.out.size
        have GV := G5.out.trans hg6
        have hbV := Lib.hid (blk_more hb5.out GVV)
        have n9V := Lib.hid (blk_more n5.out GVV)
        have ownV := Lib.hid (OR.below own5.out GVV)
        have srV := Lib.hid (sr5.out.below (Below.mono GVV lg5))
        have lgV : g ≤ w6.heap.size := Nat.le_trans lg5 GVV.size
        replace GV := Lib.hid GV
        clear GVV hb5 n5 own5 sr5 c8 c1
        go_wp2
        go_loopw [11, 74] (fun _ i wr => ∃ j : Nat, j ≤ (weakIdx X.s.bs x.1).length ∧ i = .int .i64 (j : Int) ∧ Hid (∀ i, i < j → (hj : i < (weakIdx X.s.bs x.1).length) → X.s.bs[((weakIdx X.s.bs x.1)[i]).toNat]? ≠ some x) ∧ Hid (Gr w6 wr)) (fun _ i _ => (weakIdx X.s.bs x.1).length - (intOf i).toNat)
        case atStart => exact ⟨0, by omega, rfl, Lib.hid (fun i hi => absurd hi (by omega)), Lib.hid (Gr.refl _)⟩
        case round =>
          obtain ⟨j, hj, rfl, hpre, gv⟩ := hrel
          by_cases hjl : j < (weakIdx X.s.bs x.1).length
          · obtain ⟨k, hkl, hke, hkw⟩ := mem_weakIdx.1 (List.getElem_mem hjl)
            have ownW := OR.below ownV.out gv.out
            obtain ⟨adl, rfl, hll, hcl⟩ := (OR.reads ownW).2 (by omega)
            have ck := hcl j (.int .i64 (k : Int)) (by rw [List.getElem?_map, List.getElem?_eq_getElem hjl, hke]; rfl)
            obtain ⟨adr, hadr, hlt, e0, e1, e2⟩ := (srV.out.below (Below.mono gv.out lgV)).at_ hkl
            replace hlt := Nat.lt_of_lt_of_le hlt (Nat.le_trans lgV gv.out.size)
            obtain ⟨y, hy⟩ : ∃ y, X.s.bs[k] = y := ⟨_, rfl⟩
            rw [hy] at e0 e1 e2
            have hye : X.s.bs[k]? = some y := by rw [List.getElem?_eq_getElem hkl, hy]
            have hb7 := blk_more hbV.out gv.out
            rw [hadr] at hb7
            replace hb7 := Lib.hid hb7
            have n7 := Lib.hid (blk_more n9V.out gv.out)
            have ij1 : (j : Int) < ((weakIdx X.s.bs x.1).length : Int) := by omega
            have hkeH := Lib.hid hke
            have hyeH := Lib.hid hye
            clear ownW hcl hke hye
            go_wp2
            refine region_grow rfl (by kernel_rfl) ?_
            refine GW.mv rfl trivial (.inl rfl) (kn0 (t := 0) (c := .pointer (some ⟨g, 0, none⟩)) (by kernel_rfl) rfl) (eqv_lasts _) ?_
            refine GW.p1 (.pointer (some ⟨g, 0, none⟩)) rfl trivial (kn (t := 78) (j := 0) (by kernel_rfl)) (fun ρ w' hρ hg => by simp [execOp, hρ, go_sem]) ?_
            refine GW.p1 (.pointer (some ⟨g, 0, none⟩)) rfl trivial (kn (t := 79) (j := 1) (by kernel_rfl)) (fun ρ w' hρ hg => by simp [execOp, hρ, go_sem]) ?_
            refine GW.p1 (.pointer (some ⟨g, 1, none⟩)) rfl trivial (kn (t := 80) (j := 2) (by kernel_rfl)) (fun ρ w' hρ hg => by simp [execOp, hρ, go_sem]) ?_
            refine GW.p1 (.slice (some adr) X.s.bs.length X.c1) rfl trivial (kn (t := 81) (j := 3) (by kernel_rfl)) (fun ρ w' hρ hg => by simp [execOp, hρ, go_sem, (hg.cell (p := ⟨g, 1, none⟩) hb7.out.lt).trans (hb7.out.cell 1)]) ?_
            refine GW.mv rfl trivial (.inl rfl) (kn0 (t := 11) (c := .int .i64 (k : Int)) (by kernel_rfl) rfl) (eqv_lasts _) ?_
            refine GW.p2 (.pointer (some (adr.add (k * 3)))) rfl trivial (kn (t := 82) (j := 4) (by kernel_rfl)) (kn (t := 83) (j := 5) (by kernel_rfl)) (fun ρ w' h1 h2 hg => by show ((Instr.indexAt 41 (ρ (.tmp 82)) (ρ (.tmp 83)) >>= fun v => pure (Next.value v)) : Sem Next).run Try.prog w' = _; rw [h1, h2, Sem.run_bind, run_idxR w' Try.underlying41 (size := 3) (by kernel_rfl) adr _ _ k hkl]; simp) ?_
            refine GW.p1 (.agg #[.int .u32 (n32 y.1), .int .u64 (n64 y.2.1), .int .u64 (n64 y.2.2)]) rfl trivial (kn (t := 84) (j := 6) (by kernel_rfl)) (fun ρ w' hρ hg => by simp [execOp, hρ, go_sem, (hg.cell (p := (adr.add (k * 3))) (by rw [block_of_add]; exact hlt)).trans e0, (hg.cell (p := ⟨(adr.add (k * 3)).block, (adr.add (k * 3)).off + 1, none⟩) (by rw [block_of_add]; exact hlt)).trans e1, (hg.cell (p := ⟨(adr.add (k * 3)).block, (adr.add (k * 3)).off + 2, none⟩) (by rw [block_of_add]; exact hlt)).trans e2]) ?_
            refine GW.p1 (.agg #[.int .u32 (n32 x.1), .int .u64 (n64 x.2.1), .int .u64 (n64 x.2.2)]) rfl trivial (kn0 (t := 9) (c := .pointer (some ⟨g9, 0, none⟩)) (by kernel_rfl) rfl) (fun ρ w' hρ hg => by simp [execOp, hρ, go_sem, (hg.cell (p := ⟨g9, 0, none⟩) n7.out.lt).trans (n7.out.cell 0), (hg.cell (p := ⟨g9, 1, none⟩) n7.out.lt).trans (n7.out.cell 1), (hg.cell (p := ⟨g9, 2, none⟩) n7.out.lt).trans (n7.out.cell 2)]) ?_
            refine GW.bin (.bool (y == x)) rfl trivial rfl (kn (t := 85) (j := 7) (by kernel_rfl)) (kn (t := 86) (j := 8) (by kernel_rfl)) (fun w' => (run_eql_sign _ (.inl rfl) y x _ _ w').1) ?_
            refine GW.done (by simp) (by kernel_rfl) (fun w7 hg7 => ?_)
            intro v0 _ v1 _ v2 _ v3 _ v4 _ v5 _ v6 _ v7 _ v8 _ v9 h9
            obtain rfl : v9 = (.bool (y == x)) := h9
            simp only [GFin, Act.put, List.setIfInBounds_toArray, List.set_cons_succ, List.set_cons_zero]
            cases hyx : (y == x) with
            | true =>
              obtain rfl : r = some k := by
                rw [hr]
                refine weakIdx_first hjl k hkeH.out (by rw [hyeH.out, eq_of_beq hyx]) fun i hi => hpre.out i hi (by omega)
              go_wp2
              go_ret2
              exact ⟨rfl, GV.out.trans (gv.out.trans hg7)⟩
            | false =>
              have hpre2 := Lib.hid (fun i (hi : i < j + 1) (hj2 : i < (weakIdx X.s.bs x.1).length) => (by
                rcases Nat.lt_or_ge i j with h1 | h1
                · exact hpre.out i h1 hj2
                · have e : i = j := by omega
                  subst e
                  intro h
                  rw [hkeH.out, Int.toNat_natCast, hyeH.out] at h
                  rw [Option.some.inj h] at hyx
                  simp at hyx : X.s.bs[((weakIdx X.s.bs x.1)[i]).toNat]? ≠ some x))
              go_wp2
              exact ⟨⟨j + 1, by omega, by go_num, hpre2, Lib.hid (gv.out.trans hg7)⟩, by simp [intOf]; omega⟩
          · obtain rfl : j = (weakIdx X.s.bs x.1).length := by omega
            obtain rfl : r = none := by
              rw [hr]
              refine weakIdx_none fun i hi => ?_
              obtain ⟨m, hm, rfl⟩ := List.getElem_of_mem hi
              exact hpre.out m hm hm
            go_wp2
            go_ret2
            exact ⟨rfl, GV.out.trans gv.out⟩
    · have hd1 : decide (0 ≤ last) = false := decide_eq_false hl0
      have hr : r = X.s.bs.findIdx? (· == x) := by
        rw [← hr0.out]
        unfold whichP
        rw [if_neg (fun h => hl0 h.1)]
      go_wp2
      go_quiet (fail)
      generalize hVe : w5.drewN _ = V
      have GVV : Gr w5 V := by rw [← hVe]; exact below_drewN (Below.refl _ _) _
      have lg5 : g ≤ w5.heap.size := Nat.le_trans lgg G5.out.size
      clear hVe
      have GV := G5.out.trans GVV
      have hbV := Lib.hid (blk_more hb5.out GVV)
      have n9V := Lib.hid (blk_more n5.out GVV)
      have ownV := Lib.hid (OR.below own5.out GVV)
      have srV := Lib.hid (sr5.out.below (Below.mono GVV lg5))
      have lgV : g ≤ V.heap.size := Nat.le_trans lg5 GVV.size
      replace GV := Lib.hid GV
      clear GVV hb5 n5 own5 sr5 c8 c1
      go_wp2
      go_loopw [11, 74] (fun _ i wr => ∃ j : Nat, j ≤ (weakIdx X.s.bs x.1).length ∧ i = .int .i64 (j : Int) ∧ Hid (∀ i, i < j → (hj : i < (weakIdx X.s.bs x.1).length) → X.s.bs[((weakIdx X.s.bs x.1)[i]).toNat]? ≠ some x) ∧ Hid (Gr V wr)) (fun _ i _ => (weakIdx X.s.bs x.1).length - (intOf i).toNat)
      case atStart => exact ⟨0, by omega, rfl, Lib.hid (fun i hi => absurd hi (by omega)), Lib.hid (Gr.refl _)⟩
      case round =>
        obtain ⟨j, hj, rfl, hpre, gv⟩ := hrel
        by_cases hjl : j < (weakIdx X.s.bs x.1).length
        · obtain ⟨k, hkl, hke, hkw⟩ := mem_weakIdx.1 (List.getElem_mem hjl)
          have ownW := OR.below ownV.out gv.out
          obtain ⟨adl, rfl, hll, hcl⟩ := (OR.reads ownW).2 (by omega)
          have ck := hcl j (.int .i64 (k : Int)) (by rw [List.getElem?_map, List.getElem?_eq_getElem hjl, hke]; rfl)
          obtain ⟨adr, hadr, hlt, e0, e1, e2⟩ := (srV.out.below (Below.mono gv.out lgV)).at_ hkl
          replace hlt := Nat.lt_of_lt_of_le hlt (Nat.le_trans lgV gv.out.size)
          obtain ⟨y, hy⟩ : ∃ y, X.s.bs[k] = y := ⟨_, rfl⟩
          rw [hy] at e0 e1 e2
          have hye : X.s.bs[k]? = some y := by rw [List.getElem?_eq_getElem hkl, hy]
          have hb7 := blk_more hbV.out gv.out
          rw [hadr] at hb7
          replace hb7 := Lib.hid hb7
          have n7 := Lib.hid (blk_more n9V.out gv.out)
          have ij1 : (j : Int) < ((weakIdx X.s.bs x.1).length : Int) := by omega
          have hkeH := Lib.hid hke
          have hyeH := Lib.hid hye
          clear ownW hcl hke hye
          go_wp2
          refine region_grow rfl (by kernel_rfl) ?_
          refine GW.mv rfl trivial (.inl rfl) (kn0 (t := 0) (c := .pointer (some ⟨g, 0, none⟩)) (by kernel_rfl) rfl) (eqv_lasts _) ?_
          refine GW.p1 (.pointer (some ⟨g, 0, none⟩)) rfl trivial (kn (t := 78) (j := 0) (by kernel_rfl)) (fun ρ w' hρ hg => by simp [execOp, hρ, go_sem]) ?_
          refine GW.p1 (.pointer (some ⟨g, 0, none⟩)) rfl trivial (kn (t := 79) (j := 1) (by kernel_rfl)) (fun ρ w' hρ hg => by simp [execOp, hρ, go_sem]) ?_
          refine GW.p1 (.pointer (some ⟨g, 1, none⟩)) rfl trivial (kn (t := 80) (j := 2) (by kernel_rfl)) (fun ρ w' hρ hg => by simp [execOp, hρ, go_sem]) ?_
          refine GW.p1 (.slice (some adr) X.s.bs.length X.c1) rfl trivial (kn (t := 81) (j := 3) (by kernel_rfl)) (fun ρ w' hρ hg => by simp [execOp, hρ, go_sem, (hg.cell (p := ⟨g, 1, none⟩) hb7.out.lt).trans (hb7.out.cell 1)]) ?_
          refine GW.mv rfl trivial (.inl rfl) (kn0 (t := 11) (c := .int .i64 (k : Int)) (by kernel_rfl) rfl) (eqv_lasts _) ?_
          refine GW.p2 (.pointer (some (adr.add (k * 3)))) rfl trivial (kn (t := 82) (j := 4) (by kernel_rfl)) (kn (t := 83) (j := 5) (by kernel_rfl)) (fun ρ w' h1 h2 hg => by show ((Instr.indexAt 41 (ρ (.tmp 82)) (ρ (.tmp 83)) >>= fun v => pure (Next.value v)) : Sem Next).run Try.prog w' = _; rw [h1, h2, Sem.run_bind, run_idxR w' Try.underlying41 (size := 3) (by kernel_rfl) adr _ _ k hkl]; simp) ?_
          refine GW.p1 (.agg #[.int .u32 (n32 y.1), .int .u64 (n64 y.2.1), .int .u64 (n64 y.2.2)]) rfl trivial (kn (t := 84) (j := 6) (by kernel_rfl)) (fun ρ w' hρ hg => by simp [execOp, hρ, go_sem, (hg.cell (p := (adr.add (k * 3))) (by rw [block_of_add]; exact hlt)).trans e0, (hg.cell (p := ⟨(adr.add (k * 3)).block, (adr.add (k * 3)).off + 1, none⟩) (by rw [block_of_add]; exact hlt)).trans e1, (hg.cell (p := ⟨(adr.add (k * 3)).block, (adr.add (k * 3)).off + 2, none⟩) (by rw [block_of_add]; exact hlt)).trans e2]) ?_
          refine GW.p1 (.agg #[.int .u32 (n32 x.1), .int .u64 (n64 x.2.1), .int .u64 (n64 x.2.2)]) rfl trivial (kn0 (t := 9) (c := .pointer (some ⟨g9, 0, none⟩)) (by kernel_rfl) rfl) (fun ρ w' hρ hg => by simp [execOp, hρ, go_sem, (hg.cell (p := ⟨g9, 0, none⟩) n7.out.lt).trans (n7.out.cell 0), (hg.cell (p := ⟨g9, 1, none⟩) n7.out.lt).trans (n7.out.cell 1), (hg.cell (p := ⟨g9, 2, none⟩) n7.out.lt).trans (n7.out.cell 2)]) ?_
          refine GW.bin (.bool (y == x)) rfl trivial rfl (kn (t := 85) (j := 7) (by kernel_rfl)) (kn (t := 86) (j := 8) (by kernel_rfl)) (fun w' => (run_eql_sign _ (.inl rfl) y x _ _ w').1) ?_
          refine GW.done (by simp) (by kernel_rfl) (fun w7 hg7 => ?_)
          intro v0 _ v1 _ v2 _ v3 _ v4 _ v5 _ v6 _ v7 _ v8 _ v9 h9
          obtain rfl : v9 = (.bool (y == x)) := h9
          simp only [GFin, Act.put, List.setIfInBounds_toArray, List.set_cons_succ, List.set_cons_zero]
          cases hyx : (y == x) with
          | true =>
            obtain rfl : r = some k := by
              rw [hr]
              refine weakIdx_first hjl k hkeH.out (by rw [hyeH.out, eq_of_beq hyx]) fun i hi => hpre.out i hi (by omega)
            go_wp2
            go_ret2
            exact ⟨rfl, GV.out.trans (gv.out.trans hg7)⟩
          | false =>
            have hpre2 := Lib.hid (fun i (hi : i < j + 1) (hj2 : i < (weakIdx X.s.bs x.1).length) => (by
              rcases Nat.lt_or_ge i j with h1 | h1
              · exact hpre.out i h1 hj2
              · have e : i = j := by omega
                subst e
                intro h
                rw [hkeH.out, Int.toNat_natCast, hyeH.out] at h
                rw [Option.some.inj h] at hyx
                simp at hyx : X.s.bs[((weakIdx X.s.bs x.1)[i]).toNat]? ≠ some x))
            go_wp2
            exact ⟨⟨j + 1, by omega, by go_num, hpre2, Lib.hid (gv.out.trans hg7)⟩, by simp [intOf]; omega⟩
        · obtain rfl : j = (weakIdx X.s.bs x.1).length := by omega
          obtain rfl : r = none := by
            rw [hr]
            refine weakIdx_none fun i hi => ?_
            obtain ⟨m, hm, rfl⟩ := List.getElem_of_mem hi
            exact hpre.out m hm hm
          go_wp2
          go_ret2
          exact ⟨rfl, GV.out.trans gv.out⟩
end Se
end Go.Proofs.Ytalkmkplmbmnkaa
namespace Go.Proofs.Ytalkmkplmbmnkaa
open Go Go.RowKit Go.Shelf W Sg Tk
namespace Se
def whichI (o : Option Nat) : Int := match o with
  | some k => (k : Int)
  | none => -1
set_option maxRecDepth 100000 in
set_option maxHeartbeats 8000000 in
theorem refWhich_any (s : Sig) (A1 : Option Addr) (c1 : Nat) (x : Sign) (last : Int) (w : World) (hsr : SR w w.heap.size A1 s.bs) (hnl : s.bs.length ≤ 1000000) :
    Calls Try.prog 17 #[sigV s A1 c1, sV x, .int .i64 last] w fun e w' => e = .returned (.int .i64 (whichI (whichP s.bs x last))) ∧ Gr w w' := by
  have b0 := Lib.hid ((Blk.new w 38 #[.int .i64 s.size, .slice A1 s.bs.length c1, .int .i64 s.tail, .int .u32 (n32 s.last.1), .int .u64 (n64 s.last.2.1), .int .u64 (n64 s.last.2.2)]).alloc (.cells #[.int .u32 (n32 x.1), .int .u64 (n64 x.2.1), .int .u64 (n64 x.2.2)] 36))
  have b1 := Blk.new (w.alloc (.cells #[.int .i64 s.size, .slice A1 s.bs.length c1, .int .i64 s.tail, .int .u32 (n32 s.last.1), .int .u64 (n64 s.last.2.1), .int .u64 (n64 s.last.2.2)] 38)) 36 #[.int .u32 (n32 x.1), .int .u64 (n64 x.2.1), .int .u64 (n64 x.2.2)]
  have G0 := Lib.hid (((Gr.refl w).alloc (.cells #[.int .i64 s.size, .slice A1 s.bs.length c1, .int .i64 s.tail, .int .u32 (n32 s.last.1), .int .u64 (n64 s.last.2.1), .int .u64 (n64 s.last.2.2)] 38)).alloc (.cells #[.int .u32 (n32 x.1), .int .u64 (n64 x.2.1), .int .u64 (n64 x.2.2)] 36))
  rw [World.size_alloc] at b1
  replace b1 := Lib.hid b1
  replace hsr := Lib.hid hsr
  obtain ⟨r, hr0⟩ : ∃ r, whichI (whichP s.bs x last) = r := ⟨_, rfl⟩
  rw [hr0]
  replace hr0 := Lib.hid hr0
  go_enter Try.func17, Try.ntmps17
  go_wp2
  generalize (w.alloc (.cells #[.int .i64 s.size, .slice A1 s.bs.length c1, .int .i64 s.tail, .int .u32 (n32 s.last.1), .int .u64 (n64 s.last.2.1), .int .u64 (n64 s.last.2.2)] 38)).alloc (.cells #[.int .u32 (n32 x.1), .int .u64 (n64 x.2.1), .int .u64 (n64 x.2.2)] 36) = W0 at b0 b1 G0 ⊢
  by_cases hl0 : 0 ≤ last
  · obtain ⟨ln, rfl⟩ : ∃ ln : Nat, last = (ln : Int) := ⟨last.toNat, by omega⟩
    by_cases hln : ln < s.bs.length
    · obtain ⟨adr, rfl, hlt, e0, e1, e2⟩ := (hsr.out.below G0.out).at_ hln
      replace hlt := Nat.lt_of_lt_of_le hlt G0.out.size
      obtain ⟨y, hy⟩ : ∃ y, s.bs[ln] = y := ⟨_, rfl⟩
      rw [hy] at e0 e1 e2
      have hye : s.bs[ln]? = some y := by rw [List.getElem?_eq_getElem hln, hy]
      refine region_grow rfl (by kernel_rfl) ?_
      refine GW.mv rfl trivial (.inl rfl) (kn0 (t := 2) (c := .int .i64 (ln : Int)) (by kernel_rfl) rfl) (eqv_lasts _) ?_
      refine GW.bin (.bool true) rfl trivial rfl (kn (t := 8) (j := 0) (by kernel_rfl)) knc (fun w' => by simp [go_sem]) ?_
      refine GW.mv rfl trivial (.inl rfl) (kn (t := 9) (j := 1) (by kernel_rfl)) (eqv_lasts _) ?_
      refine GW.mv rfl ⟨10, by kernel_rfl, by kernel_rfl, fun _ _ h => h⟩ (.inl rfl) (kn0 (t := 2) (c := .int .i64 (ln : Int)) (by kernel_rfl) rfl) (eqv_lasts _) ?_
      refine GW.p1 (.pointer (some ⟨w.heap.size, 1, none⟩)) rfl ⟨10, by kernel_rfl, by kernel_rfl, fun _ _ h => h⟩ (kn0 (t := 3) (c := .pointer (some ⟨w.heap.size, 0, none⟩)) (by kernel_rfl) rfl) (fun ρ w' hρ hg => by simp [execOp, hρ, go_sem]) ?_
      refine GW.p1 (.slice (some adr) s.bs.length c1) rfl ⟨10, by kernel_rfl, by kernel_rfl, fun _ _ h => h⟩ (kn (t := 12) (j := 4) (by kernel_rfl)) (fun ρ w' hρ hg => by simp [execOp, hρ, go_sem, (hg.cell (p := ⟨w.heap.size, 1, none⟩) b0.out.lt).trans (b0.out.cell 1)]) ?_
      refine GW.lenV rfl ⟨10, by kernel_rfl, by kernel_rfl, fun _ _ h => h⟩ rfl Try.underlying30 (kn (t := 13) (j := 5) (by kernel_rfl)) ?_
      refine GW.bin (.bool true) rfl ⟨10, by kernel_rfl, by kernel_rfl, fun _ _ h => h⟩ rfl (kn (t := 11) (j := 3) (by kernel_rfl)) (kn (t := 14) (j := 6) (by kernel_rfl)) (fun w' => by simp [go_sem]; omega) ?_
      refine GW.pick (b := true) rfl trivial rfl (kn (t := 10) (j := 2) (by kernel_rfl)) (kn (t := 15) (j := 7) (by kernel_rfl)) (eqv_lasts _) ?_
      refine GW.mv rfl trivial (.inl rfl) (kn (t := 16) (j := 8) (by kernel_rfl)) (eqv_lasts _) ?_
      refine GW.p1 (.pointer (some ⟨w.heap.size, 1, none⟩)) rfl ⟨17, by kernel_rfl, by kernel_rfl, fun _ _ h => h⟩ (kn0 (t := 3) (c := .pointer (some ⟨w.heap.size, 0, none⟩)) (by kernel_rfl) rfl) (fun ρ w' hρ hg => by simp [execOp, hρ, go_sem]) ?_
      refine GW.p1 (.slice (some adr) s.bs.length c1) rfl ⟨17, by kernel_rfl, by kernel_rfl, fun _ _ h => h⟩ (kn (t := 18) (j := 10) (by kernel_rfl)) (fun ρ w' hρ hg => by simp [execOp, hρ, go_sem, (hg.cell (p := ⟨w.heap.size, 1, none⟩) b0.out.lt).trans (b0.out.cell 1)]) ?_
      refine GW.mv rfl ⟨17, by kernel_rfl, by kernel_rfl, fun _ _ h => h⟩ (.inl rfl) (kn0 (t := 2) (c := .int .i64 (ln : Int)) (by kernel_rfl) rfl) (eqv_lasts _) ?_
      refine GW.p2 (.pointer (some (adr.add (ln * 3)))) rfl ⟨17, by kernel_rfl, by kernel_rfl, fun _ _ h => h⟩ (kn (t := 19) (j := 11) (by kernel_rfl)) (kn (t := 20) (j := 12) (by kernel_rfl)) (fun ρ w' h1 h2 hg => by show ((Instr.indexAt 30 (ρ (.tmp 19)) (ρ (.tmp 20)) >>= fun v => pure (Next.value v)) : Sem Next).run Try.prog w' = _; rw [h1, h2, Sem.run_bind, run_idxR w' Try.underlying30 (size := 3) (by kernel_rfl) adr _ _ ln hln]; simp) ?_
      refine GW.p1 (.agg #[.int .u32 (n32 y.1), .int .u64 (n64 y.2.1), .int .u64 (n64 y.2.2)]) rfl ⟨17, by kernel_rfl, by kernel_rfl, fun _ _ h => h⟩ (kn (t := 21) (j := 13) (by kernel_rfl)) (fun ρ w' hρ hg => by simp [execOp, hρ, go_sem, (hg.cell (p := (adr.add (ln * 3))) (by rw [block_of_add]; exact hlt)).trans e0, (hg.cell (p := ⟨(adr.add (ln * 3)).block, (adr.add (ln * 3)).off + 1, none⟩) (by rw [block_of_add]; exact hlt)).trans e1, (hg.cell (p := ⟨(adr.add (ln * 3)).block, (adr.add (ln * 3)).off + 2, none⟩) (by rw [block_of_add]; exact hlt)).trans e2]) ?_
      refine GW.p1 (.agg #[.int .u32 (n32 x.1), .int .u64 (n64 x.2.1), .int .u64 (n64 x.2.2)]) rfl ⟨17, by kernel_rfl, by kernel_rfl, fun _ _ h => h⟩ (kn0 (t := 4) (c := .pointer (some ⟨w.heap.size + 1, 0, none⟩)) (by kernel_rfl) rfl) (fun ρ w' hρ hg => by simp [execOp, hρ, go_sem, (hg.cell (p := ⟨w.heap.size + 1, 0, none⟩) b1.out.lt).trans (b1.out.cell 0), (hg.cell (p := ⟨w.heap.size + 1, 1, none⟩) b1.out.lt).trans (b1.out.cell 1), (hg.cell (p := ⟨w.heap.size + 1, 2, none⟩) b1.out.lt).trans (b1.out.cell 2)]) ?_
      refine GW.bin (.bool (y == x)) rfl ⟨17, by kernel_rfl, by kernel_rfl, fun _ _ h => h⟩ rfl (kn (t := 22) (j := 14) (by kernel_rfl)) (kn (t := 23) (j := 15) (by kernel_rfl)) (fun w' => (run_eql_sign _ (.inr rfl) y x _ _ w').1) ?_
      refine GW.pick (b := true) rfl trivial rfl (kn (t := 17) (j := 9) (by kernel_rfl)) (kn (t := 24) (j := 16) (by kernel_rfl)) (eqv_lasts _) ?_
      refine GW.done (by simp) (by kernel_rfl) (fun w6 hg6 => ?_)
      intro v0 _ v1 _ v2 _ v3 _ v4 _ v5 _ v6 _ v7 _ v8 _ v9 _ v10 _ v11 _ v12 _ v13 _ v14 _ v15 _ v16 _ v17 h17
      obtain rfl : v17 = (.bool (y == x)) := h17
      simp only [GFin, Act.put, List.setIfInBounds_toArray, List.set_cons_succ, List.set_cons_zero]
      cases hyx : (y == x) with
      | true =>
        obtain rfl : r = (ln : Int) := by
          rw [← hr0.out]
          unfold whichP
          rw [if_pos ⟨by omega, by rw [Int.toNat_natCast, hye, eq_of_beq hyx]⟩, Int.toNat_natCast]
          rfl
        go_wp2
        go_ret
        exact ⟨rfl, G0.out.trans hg6⟩
      | false =>
        have hr := Lib.hid (show r = whichI (s.bs.findIdx? (· == x)) by
          rw [← hr0.out]
          unfold whichP
          rw [if_neg]
          rintro ⟨_, h⟩
          rw [Int.toNat_natCast, hye] at h
          rw [Option.some.inj h] at hyx
          simp at hyx)
        clear e0 e1 e2 hyx hye
        have hb0 := Lib.hid (blk_more b0.out hg6)
        have hb1 := Lib.hid (blk_more b1.out hg6)
        have hsV := Lib.hid (hsr.out.below (G0.out.trans hg6))
        have GV := Lib.hid (G0.out.trans hg6)
        clear hg6 b0 b1
        go_wp2
        go_loopw [7] (fun i wr => ∃ j : Nat, j ≤ s.bs.length ∧ i = .int .i64 (j : Int) ∧ Hid (∀ i, i < j → s.bs[i]? ≠ some x) ∧ Hid (Gr w6 wr)) (fun i _ => s.bs.length - (intOf i).toNat)
        case atStart => exact ⟨0, by omega, rfl, Lib.hid (fun i hi => absurd hi (by omega)), Lib.hid (Gr.refl _)⟩
        case round =>
          obtain ⟨j, hj, rfl, hpre, gv⟩ := hrel
          have b7 := blk_more hb0.out gv.out
          have cb := b7.cell 1
          by_cases hjl : j < s.bs.length
          · obtain ⟨adr, hadr, hlt, e0, e1, e2⟩ := (hsV.out.below (GV.out.trans gv.out |> fun h => Below.mono gv.out GV.out.size)).at_ hjl
            replace hlt := Nat.lt_of_lt_of_le hlt (GV.out.trans gv.out).size
            obtain ⟨y, hy⟩ : ∃ y, s.bs[j] = y := ⟨_, rfl⟩
            rw [hy] at e0 e1 e2
            have hye := Lib.hid (show s.bs[j]? = some y by rw [List.getElem?_eq_getElem hjl, hy])
            rw [hadr] at b7
            replace b7 := Lib.hid b7
            have x7 := Lib.hid (blk_more hb1.out gv.out)
            have ij : (j : Int) < (s.bs.length : Int) := by omega
            go_wp2
            refine region_grow rfl (by kernel_rfl) ?_
            refine GW.p1 (.pointer (some ⟨w.heap.size, 1, none⟩)) rfl trivial (kn0 (t := 3) (c := .pointer (some ⟨w.heap.size, 0, none⟩)) (by kernel_rfl) rfl) (fun ρ w' hρ hg => by simp [execOp, hρ, go_sem]) ?_
            refine GW.p1 (.slice (some adr) s.bs.length c1) rfl trivial (kn (t := 34) (j := 0) (by kernel_rfl)) (fun ρ w' hρ hg => by simp [execOp, hρ, go_sem, (hg.cell (p := ⟨w.heap.size, 1, none⟩) b7.out.lt).trans (b7.out.cell 1)]) ?_
            refine GW.mv rfl trivial (.inl rfl) (kn0 (t := 7) (c := .int .i64 (j : Int)) (by kernel_rfl) rfl) (eqv_lasts _) ?_
            refine GW.p2 (.pointer (some (adr.add (j * 3)))) rfl trivial (kn (t := 35) (j := 1) (by kernel_rfl)) (kn (t := 36) (j := 2) (by kernel_rfl)) (fun ρ w' h1 h2 hg => by show ((Instr.indexAt 30 (ρ (.tmp 35)) (ρ (.tmp 36)) >>= fun v => pure (Next.value v)) : Sem Next).run Try.prog w' = _; rw [h1, h2, Sem.run_bind, run_idxR w' Try.underlying30 (size := 3) (by kernel_rfl) adr _ _ j hjl]; simp) ?_
            refine GW.p1 (.agg #[.int .u32 (n32 y.1), .int .u64 (n64 y.2.1), .int .u64 (n64 y.2.2)]) rfl trivial (kn (t := 37) (j := 3) (by kernel_rfl)) (fun ρ w' hρ hg => by simp [execOp, hρ, go_sem, (hg.cell (p := (adr.add (j * 3))) (by rw [block_of_add]; exact hlt)).trans e0, (hg.cell (p := ⟨(adr.add (j * 3)).block, (adr.add (j * 3)).off + 1, none⟩) (by rw [block_of_add]; exact hlt)).trans e1, (hg.cell (p := ⟨(adr.add (j * 3)).block, (adr.add (j * 3)).off + 2, none⟩) (by rw [block_of_add]; exact hlt)).trans e2]) ?_
            refine GW.p1 (.agg #[.int .u32 (n32 x.1), .int .u64 (n64 x.2.1), .int .u64 (n64 x.2.2)]) rfl trivial (kn0 (t := 4) (c := .pointer (some ⟨w.heap.size + 1, 0, none⟩)) (by kernel_rfl) rfl) (fun ρ w' hρ hg => by simp [execOp, hρ, go_sem, (hg.cell (p := ⟨w.heap.size + 1, 0, none⟩) x7.out.lt).trans (x7.out.cell 0), (hg.cell (p := ⟨w.heap.size + 1, 1, none⟩) x7.out.lt).trans (x7.out.cell 1), (hg.cell (p := ⟨w.heap.size + 1, 2, none⟩) x7.out.lt).trans (x7.out.cell 2)]) ?_
            refine GW.bin (.bool (y == x)) rfl trivial rfl (kn (t := 38) (j := 4) (by kernel_rfl)) (kn (t := 39) (j := 5) (by kernel_rfl)) (fun w' => (run_eql_sign _ (.inr rfl) y x _ _ w').1) ?_
            refine GW.done (by simp) (by kernel_rfl) (fun w7 hg7 => ?_)
            intro v0 _ v1 _ v2 _ v3 _ v4 _ v5 _ v6 h6
            obtain rfl : v6 = (.bool (y == x)) := h6
            simp only [GFin, Act.put, List.setIfInBounds_toArray, List.set_cons_succ, List.set_cons_zero]
            cases hyx : (y == x) with
            | true =>
              obtain rfl : r = (j : Int) := by
                rw [hr.out, List.findIdx?_eq_some_iff_getElem.2 ⟨hjl, by rw [hy]; exact hyx, fun i hi => ?_⟩]
                · rfl
                · intro h
                  have := hpre.out i hi
                  rw [List.getElem?_eq_getElem (by omega), eq_of_beq h] at this
                  exact this rfl
              go_wp2
              go_ret
              exact ⟨rfl, GV.out.trans (gv.out.trans hg7)⟩
            | false =>
              have hpre2 := Lib.hid (fun i (hi : i < j + 1) => (by
                rcases Nat.lt_or_ge i j with h1 | h1
                · exact hpre.out i h1
                · have e : i = j := by omega
                  subst e
                  rw [hye.out]
                  intro h
                  rw [Option.some.inj h] at hyx
                  simp at hyx : s.bs[i]? ≠ some x))
              go_wp2
              exact ⟨⟨j + 1, by omega, by go_num, hpre2, Lib.hid (gv.out.trans hg7)⟩, by simp [intOf]; omega⟩
          · obtain rfl : j = s.bs.length := by omega
            obtain rfl : r = -1 := by
              rw [hr.out, List.findIdx?_eq_none_iff.2 fun y hy => ?_]
              · rfl
              · obtain ⟨m, hm, rfl⟩ := List.getElem_of_mem hy
                have := hpre.out m hm
                rw [List.getElem?_eq_getElem hm] at this
                rw [beq_eq_false_iff_ne]
                exact fun e => this (by rw [e])
            go_wp2
            go_ret
            exact ⟨rfl, GV.out.trans gv.out⟩
    · have hln2 : s.bs.length ≤ ln := by omega
      have hr := Lib.hid (show r = whichI (s.bs.findIdx? (· == x)) by
        rw [← hr0.out]
        unfold whichP
        rw [if_neg]
        rintro ⟨_, h⟩
        rw [Int.toNat_natCast, List.getElem?_eq_none (by omega)] at h
        cases h)
      refine region_grow rfl (by kernel_rfl) ?_
      refine GW.mv rfl trivial (.inl rfl) (kn0 (t := 2) (c := .int .i64 (ln : Int)) (by kernel_rfl) rfl) (eqv_lasts _) ?_
      refine GW.bin (.bool true) rfl trivial rfl (kn (t := 8) (j := 0) (by kernel_rfl)) knc (fun w' => by simp [go_sem]) ?_
      refine GW.mv rfl trivial (.inl rfl) (kn (t := 9) (j := 1) (by kernel_rfl)) (eqv_lasts _) ?_
      refine GW.mv rfl ⟨10, by kernel_rfl, by kernel_rfl, fun _ _ h => h⟩ (.inl rfl) (kn0 (t := 2) (c := .int .i64 (ln : Int)) (by kernel_rfl) rfl) (eqv_lasts _) ?_
      refine GW.p1 (.pointer (some ⟨w.heap.size, 1, none⟩)) rfl ⟨10, by kernel_rfl, by kernel_rfl, fun _ _ h => h⟩ (kn0 (t := 3) (c := .pointer (some ⟨w.heap.size, 0, none⟩)) (by kernel_rfl) rfl) (fun ρ w' hρ hg => by simp [execOp, hρ, go_sem]) ?_
      refine GW.p1 (.slice A1 s.bs.length c1) rfl ⟨10, by kernel_rfl, by kernel_rfl, fun _ _ h => h⟩ (kn (t := 12) (j := 4) (by kernel_rfl)) (fun ρ w' hρ hg => by simp [execOp, hρ, go_sem, (hg.cell (p := ⟨w.heap.size, 1, none⟩) b0.out.lt).trans (b0.out.cell 1)]) ?_
      refine GW.lenV rfl ⟨10, by kernel_rfl, by kernel_rfl, fun _ _ h => h⟩ rfl Try.underlying30 (kn (t := 13) (j := 5) (by kernel_rfl)) ?_
      refine GW.bin (.bool false) rfl ⟨10, by kernel_rfl, by kernel_rfl, fun _ _ h => h⟩ rfl (kn (t := 11) (j := 3) (by kernel_rfl)) (kn (t := 14) (j := 6) (by kernel_rfl)) (fun w' => by simp [go_sem]; omega) ?_
      refine GW.pick (b := true) rfl trivial rfl (kn (t := 10) (j := 2) (by kernel_rfl)) (kn (t := 15) (j := 7) (by kernel_rfl)) (eqv_lasts _) ?_
      refine GW.mv rfl trivial (.inl rfl) (kn (t := 16) (j := 8) (by kernel_rfl)) (eqv_lasts _) ?_
      refine GW.skip rfl rfl (d := 17) (by kernel_rfl) (by kernel_rfl) (fun _ _ h => .inl h) ?_
      refine GW.skip rfl rfl (d := 17) (by kernel_rfl) (by kernel_rfl) (fun _ _ h => .inl h) ?_
      refine GW.skip rfl rfl (d := 17) (by kernel_rfl) (by kernel_rfl) (fun _ _ h => .inl h) ?_
      refine GW.skip rfl rfl (d := 17) (by kernel_rfl) (by kernel_rfl) (fun _ _ h => .inl h) ?_
      refine GW.skip rfl rfl (d := 17) (by kernel_rfl) (by kernel_rfl) (fun _ _ h => .inl h) ?_
      refine GW.skip rfl rfl (d := 17) (by kernel_rfl) (by kernel_rfl) (fun _ _ h => .inl h) ?_
      refine GW.skip rfl rfl (d := 17) (by kernel_rfl) (by kernel_rfl) (fun _ _ h => .inl h) ?_
      refine GW.pick (b := false) rfl trivial rfl (kn (t := 17) (j := 9) (by kernel_rfl)) (knc) (eqv_lasts _) ?_
      refine GW.done (by simp) (by kernel_rfl) (fun w6 hg6 => ?_)
      intro v0 _ v1 _ v2 _ v3 _ v4 _ v5 _ v6 _ v7 _ v8 _ v9 _ v10 _ v11 _ v12 _ v13 _ v14 _ v15 _ v16 _ v17 h17
      obtain rfl : v17 = (Value.bool false) := h17
      simp only [GFin, Act.put, List.setIfInBounds_toArray, List.set_cons_succ, List.set_cons_zero]
      have hb0 := Lib.hid (blk_more b0.out hg6)
      have hb1 := Lib.hid (blk_more b1.out hg6)
      have hsV := Lib.hid (hsr.out.below (G0.out.trans hg6))
      have GV := Lib.hid (G0.out.trans hg6)
      clear hg6 b0 b1
      go_wp2
      go_loopw [7] (fun i wr => ∃ j : Nat, j ≤ s.bs.length ∧ i = .int .i64 (j : Int) ∧ Hid (∀ i, i < j → s.bs[i]? ≠ some x) ∧ Hid (Gr w6 wr)) (fun i _ => s.bs.length - (intOf i).toNat)
      case atStart => exact ⟨0, by omega, rfl, Lib.hid (fun i hi => absurd hi (by omega)), Lib.hid (Gr.refl _)⟩
      case round =>
        obtain ⟨j, hj, rfl, hpre, gv⟩ := hrel
        have b7 := blk_more hb0.out gv.out
        have cb := b7.cell 1
        by_cases hjl : j < s.bs.length
        · obtain ⟨adr, hadr, hlt, e0, e1, e2⟩ := (hsV.out.below (GV.out.trans gv.out |> fun h => Below.mono gv.out GV.out.size)).at_ hjl
          replace hlt := Nat.lt_of_lt_of_le hlt (GV.out.trans gv.out).size
          obtain ⟨y, hy⟩ : ∃ y, s.bs[j] = y := ⟨_, rfl⟩
          rw [hy] at e0 e1 e2
          have hye := Lib.hid (show s.bs[j]? = some y by rw [List.getElem?_eq_getElem hjl, hy])
          rw [hadr] at b7
          replace b7 := Lib.hid b7
          have x7 := Lib.hid (blk_more hb1.out gv.out)
          have ij : (j : Int) < (s.bs.length : Int) := by omega
          go_wp2
          refine region_grow rfl (by kernel_rfl) ?_
          refine GW.p1 (.pointer (some ⟨w.heap.size, 1, none⟩)) rfl trivial (kn0 (t := 3) (c := .pointer (some ⟨w.heap.size, 0, none⟩)) (by kernel_rfl) rfl) (fun ρ w' hρ hg => by simp [execOp, hρ, go_sem]) ?_
          refine GW.p1 (.slice (some adr) s.bs.length c1) rfl trivial (kn (t := 34) (j := 0) (by kernel_rfl)) (fun ρ w' hρ hg => by simp [execOp, hρ, go_sem, (hg.cell (p := ⟨w.heap.size, 1, none⟩) b7.out.lt).trans (b7.out.cell 1)]) ?_
          refine GW.mv rfl trivial (.inl rfl) (kn0 (t := 7) (c := .int .i64 (j : Int)) (by kernel_rfl) rfl) (eqv_lasts _) ?_
          refine GW.p2 (.pointer (some (adr.add (j * 3)))) rfl trivial (kn (t := 35) (j := 1) (by kernel_rfl)) (kn (t := 36) (j := 2) (by kernel_rfl)) (fun ρ w' h1 h2 hg => by show ((Instr.indexAt 30 (ρ (.tmp 35)) (ρ (.tmp 36)) >>= fun v => pure (Next.value v)) : Sem Next).run Try.prog w' = _; rw [h1, h2, Sem.run_bind, run_idxR w' Try.underlying30 (size := 3) (by kernel_rfl) adr _ _ j hjl]; simp) ?_
          refine GW.p1 (.agg #[.int .u32 (n32 y.1), .int .u64 (n64 y.2.1), .int .u64 (n64 y.2.2)]) rfl trivial (kn (t := 37) (j := 3) (by kernel_rfl)) (fun ρ w' hρ hg => by simp [execOp, hρ, go_sem, (hg.cell (p := (adr.add (j * 3))) (by rw [block_of_add]; exact hlt)).trans e0, (hg.cell (p := ⟨(adr.add (j * 3)).block, (adr.add (j * 3)).off + 1, none⟩) (by rw [block_of_add]; exact hlt)).trans e1, (hg.cell (p := ⟨(adr.add (j * 3)).block, (adr.add (j * 3)).off + 2, none⟩) (by rw [block_of_add]; exact hlt)).trans e2]) ?_
          refine GW.p1 (.agg #[.int .u32 (n32 x.1), .int .u64 (n64 x.2.1), .int .u64 (n64 x.2.2)]) rfl trivial (kn0 (t := 4) (c := .pointer (some ⟨w.heap.size + 1, 0, none⟩)) (by kernel_rfl) rfl) (fun ρ w' hρ hg => by simp [execOp, hρ, go_sem, (hg.cell (p := ⟨w.heap.size + 1, 0, none⟩) x7.out.lt).trans (x7.out.cell 0), (hg.cell (p := ⟨w.heap.size + 1, 1, none⟩) x7.out.lt).trans (x7.out.cell 1), (hg.cell (p := ⟨w.heap.size + 1, 2, none⟩) x7.out.lt).trans (x7.out.cell 2)]) ?_
          refine GW.bin (.bool (y == x)) rfl trivial rfl (kn (t := 38) (j := 4) (by kernel_rfl)) (kn (t := 39) (j := 5) (by kernel_rfl)) (fun w' => (run_eql_sign _ (.inr rfl) y x _ _ w').1) ?_
          refine GW.done (by simp) (by kernel_rfl) (fun w7 hg7 => ?_)
          intro v0 _ v1 _ v2 _ v3 _ v4 _ v5 _ v6 h6
          obtain rfl : v6 = (.bool (y == x)) := h6
          simp only [GFin, Act.put, List.setIfInBounds_toArray, List.set_cons_succ, List.set_cons_zero]
          cases hyx : (y == x) with
          | true =>
            obtain rfl : r = (j : Int) := by
              rw [hr.out, List.findIdx?_eq_some_iff_getElem.2 ⟨hjl, by rw [hy]; exact hyx, fun i hi => ?_⟩]
              · rfl
              · intro h
                have := hpre.out i hi
                rw [List.getElem?_eq_getElem (by omega), eq_of_beq h] at this
                exact this rfl
            go_wp2
            go_ret
            exact ⟨rfl, GV.out.trans (gv.out.trans hg7)⟩
          | false =>
            have hpre2 := Lib.hid (fun i (hi : i < j + 1) => (by
              rcases Nat.lt_or_ge i j with h1 | h1
              · exact hpre.out i h1
              · have e : i = j := by omega
                subst e
                rw [hye.out]
                intro h
                rw [Option.some.inj h] at hyx
                simp at hyx : s.bs[i]? ≠ some x))
            go_wp2
            exact ⟨⟨j + 1, by omega, by go_num, hpre2, Lib.hid (gv.out.trans hg7)⟩, by simp [intOf]; omega⟩
        · obtain rfl : j = s.bs.length := by omega
          obtain rfl : r = -1 := by
            rw [hr.out, List.findIdx?_eq_none_iff.2 fun y hy => ?_]
            · rfl
            · obtain ⟨m, hm, rfl⟩ := List.getElem_of_mem hy
              have := hpre.out m hm
              rw [List.getElem?_eq_getElem hm] at this
              rw [beq_eq_false_iff_ne]
              exact fun e => this (by rw [e])
          go_wp2
          go_ret
          exact ⟨rfl, GV.out.trans gv.out⟩
  · have hr := Lib.hid (show r = whichI (s.bs.findIdx? (· == x)) by
      rw [← hr0.out]
      unfold whichP
      rw [if_neg (fun h => hl0 h.1)])
    refine region_grow rfl (by kernel_rfl) ?_
    refine GW.mv rfl trivial (.inl rfl) (kn0 (t := 2) (c := .int .i64 last) (by kernel_rfl) rfl) (eqv_lasts _) ?_
    refine GW.bin (.bool false) rfl trivial rfl (kn (t := 8) (j := 0) (by kernel_rfl)) knc (fun w' => by simp [go_sem]; omega) ?_
    refine GW.mv rfl trivial (.inl rfl) (kn (t := 9) (j := 1) (by kernel_rfl)) (eqv_lasts _) ?_
    refine GW.skip rfl rfl (d := 10) (by kernel_rfl) (by kernel_rfl) (fun _ _ h => .inl h) ?_
    refine GW.skip rfl rfl (d := 10) (by kernel_rfl) (by kernel_rfl) (fun _ _ h => .inl h) ?_
    refine GW.skip rfl rfl (d := 10) (by kernel_rfl) (by kernel_rfl) (fun _ _ h => .inl h) ?_
    refine GW.skip rfl rfl (d := 10) (by kernel_rfl) (by kernel_rfl) (fun _ _ h => .inl h) ?_
    refine GW.skip rfl rfl (d := 10) (by kernel_rfl) (by kernel_rfl) (fun _ _ h => .inl h) ?_
    refine GW.pick (b := false) rfl trivial rfl (kn (t := 10) (j := 2) (by kernel_rfl)) (knc) (eqv_lasts _) ?_
    refine GW.mv rfl trivial (.inl rfl) (kn (t := 16) (j := 8) (by kernel_rfl)) (eqv_lasts _) ?_
    refine GW.skip rfl rfl (d := 17) (by kernel_rfl) (by kernel_rfl) (fun _ _ h => .inl h) ?_
    refine GW.skip rfl rfl (d := 17) (by kernel_rfl) (by kernel_rfl) (fun _ _ h => .inl h) ?_
    refine GW.skip rfl rfl (d := 17) (by kernel_rfl) (by kernel_rfl) (fun _ _ h => .inl h) ?_
    refine GW.skip rfl rfl (d := 17) (by kernel_rfl) (by kernel_rfl) (fun _ _ h => .inl h) ?_
    refine GW.skip rfl rfl (d := 17) (by kernel_rfl) (by kernel_rfl) (fun _ _ h => .inl h) ?_
    refine GW.skip rfl rfl (d := 17) (by kernel_rfl) (by kernel_rfl) (fun _ _ h => .inl h) ?_
    refine GW.skip rfl rfl (d := 17) (by kernel_rfl) (by kernel_rfl) (fun _ _ h => .inl h) ?_
    refine GW.pick (b := false) rfl trivial rfl (kn (t := 17) (j := 9) (by kernel_rfl)) (knc) (eqv_lasts _) ?_
    refine GW.done (by simp) (by kernel_rfl) (fun w6 hg6 => ?_)
    intro v0 _ v1 _ v2 _ v3 _ v4 _ v5 _ v6 _ v7 _ v8 _ v9 _ v10 _ v11 _ v12 _ v13 _ v14 _ v15 _ v16 _ v17 h17
    obtain rfl : v17 = (Value.bool false) := h17
    simp only [GFin, Act.put, List.setIfInBounds_toArray, List.set_cons_succ, List.set_cons_zero]
    have hb0 := Lib.hid (blk_more b0.out hg6)
    have hb1 := Lib.hid (blk_more b1.out hg6)
    have hsV := Lib.hid (hsr.out.below (G0.out.trans hg6))
    have GV := Lib.hid (G0.out.trans hg6)
    clear hg6 b0 b1
    go_wp2
    go_loopw [7] (fun i wr => ∃ j : Nat, j ≤ s.bs.length ∧ i = .int .i64 (j : Int) ∧ Hid (∀ i, i < j → s.bs[i]? ≠ some x) ∧ Hid (Gr w6 wr)) (fun i _ => s.bs.length - (intOf i).toNat)
    case atStart => exact ⟨0, by omega, rfl, Lib.hid (fun i hi => absurd hi (by omega)), Lib.hid (Gr.refl _)⟩
    case round =>
      obtain ⟨j, hj, rfl, hpre, gv⟩ := hrel
      have b7 := blk_more hb0.out gv.out
      have cb := b7.cell 1
      by_cases hjl : j < s.bs.length
      · obtain ⟨adr, hadr, hlt, e0, e1, e2⟩ := (hsV.out.below (GV.out.trans gv.out |> fun h => Below.mono gv.out GV.out.size)).at_ hjl
        replace hlt := Nat.lt_of_lt_of_le hlt (GV.out.trans gv.out).size
        obtain ⟨y, hy⟩ : ∃ y, s.bs[j] = y := ⟨_, rfl⟩
        rw [hy] at e0 e1 e2
        have hye := Lib.hid (show s.bs[j]? = some y by rw [List.getElem?_eq_getElem hjl, hy])
        rw [hadr] at b7
        replace b7 := Lib.hid b7
        have x7 := Lib.hid (blk_more hb1.out gv.out)
        have ij : (j : Int) < (s.bs.length : Int) := by omega
        go_wp2
        refine region_grow rfl (by kernel_rfl) ?_
        refine GW.p1 (.pointer (some ⟨w.heap.size, 1, none⟩)) rfl trivial (kn0 (t := 3) (c := .pointer (some ⟨w.heap.size, 0, none⟩)) (by kernel_rfl) rfl) (fun ρ w' hρ hg => by simp [execOp, hρ, go_sem]) ?_
        refine GW.p1 (.slice (some adr) s.bs.length c1) rfl trivial (kn (t := 34) (j := 0) (by kernel_rfl)) (fun ρ w' hρ hg => by simp [execOp, hρ, go_sem, (hg.cell (p := ⟨w.heap.size, 1, none⟩) b7.out.lt).trans (b7.out.cell 1)]) ?_
        refine GW.mv rfl trivial (.inl rfl) (kn0 (t := 7) (c := .int .i64 (j : Int)) (by kernel_rfl) rfl) (eqv_lasts _) ?_
        refine GW.p2 (.pointer (some (adr.add (j * 3)))) rfl trivial (kn (t := 35) (j := 1) (by kernel_rfl)) (kn (t := 36) (j := 2) (by kernel_rfl)) (fun ρ w' h1 h2 hg => by show ((Instr.indexAt 30 (ρ (.tmp 35)) (ρ (.tmp 36)) >>= fun v => pure (Next.value v)) : Sem Next).run Try.prog w' = _; rw [h1, h2, Sem.run_bind, run_idxR w' Try.underlying30 (size := 3) (by kernel_rfl) adr _ _ j hjl]; simp) ?_
        refine GW.p1 (.agg #[.int .u32 (n32 y.1), .int .u64 (n64 y.2.1), .int .u64 (n64 y.2.2)]) rfl trivial (kn (t := 37) (j := 3) (by kernel_rfl)) (fun ρ w' hρ hg => by simp [execOp, hρ, go_sem, (hg.cell (p := (adr.add (j * 3))) (by rw [block_of_add]; exact hlt)).trans e0, (hg.cell (p := ⟨(adr.add (j * 3)).block, (adr.add (j * 3)).off + 1, none⟩) (by rw [block_of_add]; exact hlt)).trans e1, (hg.cell (p := ⟨(adr.add (j * 3)).block, (adr.add (j * 3)).off + 2, none⟩) (by rw [block_of_add]; exact hlt)).trans e2]) ?_
        refine GW.p1 (.agg #[.int .u32 (n32 x.1), .int .u64 (n64 x.2.1), .int .u64 (n64 x.2.2)]) rfl trivial (kn0 (t := 4) (c := .pointer (some ⟨w.heap.size + 1, 0, none⟩)) (by kernel_rfl) rfl) (fun ρ w' hρ hg => by simp [execOp, hρ, go_sem, (hg.cell (p := ⟨w.heap.size + 1, 0, none⟩) x7.out.lt).trans (x7.out.cell 0), (hg.cell (p := ⟨w.heap.size + 1, 1, none⟩) x7.out.lt).trans (x7.out.cell 1), (hg.cell (p := ⟨w.heap.size + 1, 2, none⟩) x7.out.lt).trans (x7.out.cell 2)]) ?_
        refine GW.bin (.bool (y == x)) rfl trivial rfl (kn (t := 38) (j := 4) (by kernel_rfl)) (kn (t := 39) (j := 5) (by kernel_rfl)) (fun w' => (run_eql_sign _ (.inr rfl) y x _ _ w').1) ?_
        refine GW.done (by simp) (by kernel_rfl) (fun w7 hg7 => ?_)
        intro v0 _ v1 _ v2 _ v3 _ v4 _ v5 _ v6 h6
        obtain rfl : v6 = (.bool (y == x)) := h6
        simp only [GFin, Act.put, List.setIfInBounds_toArray, List.set_cons_succ, List.set_cons_zero]
        cases hyx : (y == x) with
        | true =>
          obtain rfl : r = (j : Int) := by
            rw [hr.out, List.findIdx?_eq_some_iff_getElem.2 ⟨hjl, by rw [hy]; exact hyx, fun i hi => ?_⟩]
            · rfl
            · intro h
              have := hpre.out i hi
              rw [List.getElem?_eq_getElem (by omega), eq_of_beq h] at this
              exact this rfl
          go_wp2
          go_ret
          exact ⟨rfl, GV.out.trans (gv.out.trans hg7)⟩
        | false =>
          have hpre2 := Lib.hid (fun i (hi : i < j + 1) => (by
            rcases Nat.lt_or_ge i j with h1 | h1
            · exact hpre.out i h1
            · have e : i = j := by omega
              subst e
              rw [hye.out]
              intro h
              rw [Option.some.inj h] at hyx
              simp at hyx : s.bs[i]? ≠ some x))
          go_wp2
          exact ⟨⟨j + 1, by omega, by go_num, hpre2, Lib.hid (gv.out.trans hg7)⟩, by simp [intOf]; omega⟩
      · obtain rfl : j = s.bs.length := by omega
        obtain rfl : r = -1 := by
          rw [hr.out, List.findIdx?_eq_none_iff.2 fun y hy => ?_]
          · rfl
          · obtain ⟨m, hm, rfl⟩ := List.getElem_of_mem hy
            have := hpre.out m hm
            rw [List.getElem?_eq_getElem hm] at this
            rw [beq_eq_false_iff_ne]
            exact fun e => this (by rw [e])
        go_wp2
        go_ret
        exact ⟨rfl, GV.out.trans gv.out⟩
end Se
end Go.Proofs.Ytalkmkplmbmnkaa
namespace Go.Proofs.Ytalkmkplmbmnkaa
open Sg Tk
namespace Se
/-- The block that is copied at a place, and how many bytes it has; none: the byte is literal. -/
def stepP (s : Sig) (b : List UInt8) (at_ : Nat) (next : Int) : Option (Nat × Nat) :=
  if right s = true ∧ s.size ≤ (b.length : Int) - (at_ : Int) then (whichP s.bs (sign ((b.drop at_).take s.size.toNat)) next).map fun k => (k, s.size.toNat)
  else if right s = true ∧ 0 < s.tail ∧ (b.length : Int) - (at_ : Int) = s.tail ∧ sign (b.drop at_) = s.last then some (s.bs.length, s.tail.toNat)
  else none
/-- What is found from a place on; n: more than the steps that are left. -/
def findF (s : Sig) (b : List UInt8) : Nat → Nat → Int → List Tok
  | 0, _, _ => []
  | n + 1, at_, next => if b.length ≤ at_ then [] else
    match stepP s b at_ next with
    | some (k, m) => ⟨(k : Int), 1, []⟩ :: findF s b n (at_ + m) ((k : Int) + 1)
    | none => ⟨0, 0, (b.drop at_).take 1⟩ :: findF s b n (at_ + 1) (-1)
def refOf (s : Sig) (b : List UInt8) : List Tok := join (findF s b (b.length + 1) 0 (-1))
theorem right_pos {s : Sig} (h : right s = true) : 4 ≤ s.size ∧ s.size ≤ 64 ∧ 0 ≤ s.tail ∧ s.tail < s.size := by
  obtain ⟨h1, h2, _, h4, h5, _⟩ := right_spec h
  exact ⟨h1, h2, h4, h5⟩
theorem step_pos {s : Sig} {b : List UInt8} {at_ : Nat} {next : Int} {k m : Nat} (h : stepP s b at_ next = some (k, m)) : 1 ≤ m ∧ at_ + m ≤ b.length ∧ k ≤ s.bs.length := by
  unfold stepP at h
  split at h
  · rename_i hr
    obtain ⟨h1, h2, h3, h4⟩ := right_pos hr.1
    obtain ⟨k', hk, e⟩ := Option.map_eq_some_iff.1 h
    injection e with e1 e2
    subst e1
    refine ⟨by omega, by omega, ?_⟩
    unfold whichP at hk
    split at hk
    · rename_i hn
      have := (List.getElem?_eq_some_iff.1 hn.2).1
      injection hk with hk
      omega
    · have := (List.findIdx?_eq_some_iff_getElem.1 hk).1
      omega
  · split at h
    · rename_i hr
      injection h with h
      injection h with e1 e2
      omega
    · cases h
theorem findF_fuel (s : Sig) (b : List UInt8) : ∀ (n n' at_ : Nat) (next : Int), b.length - at_ < n → b.length - at_ < n' → findF s b n at_ next = findF s b n' at_ next := by
  intro n
  induction n with
  | zero => intro n' at_ next h; omega
  | succ n ih =>
    intro n' at_ next h h'
    obtain ⟨m', rfl⟩ : ∃ m', n' = m' + 1 := ⟨n' - 1, by omega⟩
    unfold findF
    by_cases hl : b.length ≤ at_
    · rw [if_pos hl, if_pos hl]
    · rw [if_neg hl, if_neg hl]
      cases e : stepP s b at_ next with
      | none => simp only; rw [ih m' (at_ + 1) (-1) (by omega) (by omega)]
      | some q =>
        obtain ⟨k, m⟩ := q
        have := step_pos e
        simp only
        rw [ih m' (at_ + m) ((k : Int) + 1) (by omega) (by omega)]
/-- All that is found from a place on. -/
def findP (s : Sig) (b : List UInt8) (at_ : Nat) (next : Int) : List Tok := findF s b (b.length + 1) at_ next
theorem findP_end {s : Sig} {b : List UInt8} {at_ : Nat} {next : Int} (h : b.length ≤ at_) : findP s b at_ next = [] := by
  unfold findP findF
  rw [if_pos h]
theorem findP_some {s : Sig} {b : List UInt8} {at_ k m : Nat} {next : Int} (h : at_ < b.length) (e : stepP s b at_ next = some (k, m)) : findP s b at_ next = ⟨(k : Int), 1, []⟩ :: findP s b (at_ + m) ((k : Int) + 1) := by
  have := step_pos e
  unfold findP
  rw [findF, if_neg (by omega), e]
  simp only
  rw [findF_fuel s b b.length (b.length + 1) _ _ (by omega) (by omega)]
theorem findP_none {s : Sig} {b : List UInt8} {at_ : Nat} {next : Int} (h : at_ < b.length) (e : stepP s b at_ next = none) : findP s b at_ next = ⟨0, 0, (b.drop at_).take 1⟩ :: findP s b (at_ + 1) (-1) := by
  unfold findP
  rw [findF, if_neg (by omega), e]
  simp only
  rw [findF_fuel s b b.length (b.length + 1) _ _ (by omega) (by omega)]
/-- As long as the windows from a place on hold no block: bytes that are literal, one by one. -/
theorem findP_skip {s : Sig} {b : List UInt8} : ∀ (p at_ : Nat) (next : Int), at_ + p ≤ b.length → (∀ i, i < p → stepP s b (at_ + i) (if i = 0 then next else -1) = none) →
    findP s b at_ next = ((List.range p).map fun i => (⟨0, 0, (b.drop (at_ + i)).take 1⟩ : Tok)) ++ findP s b (at_ + p) (if p = 0 then next else -1) := by
  intro p
  induction p with
  | zero => intro at_ next h1 h2; simp
  | succ p ih =>
    intro at_ next h1 h2
    have h0 := h2 0 (by omega)
    rw [if_pos rfl, Nat.add_zero] at h0
    rw [findP_none (by omega) h0, ih (at_ + 1) (-1) (by omega) (fun i hi => by
      have := h2 (i + 1) (by omega)
      rw [if_neg (by omega)] at this
      rw [show at_ + 1 + i = at_ + (i + 1) by omega]
      split <;> exact this)]
    rw [List.range_succ_eq_map, List.map_cons, List.map_map, List.cons_append, if_neg (Nat.succ_ne_zero p)]
    have e1 : (if p = 0 then (-1 : Int) else -1) = -1 := by split <;> rfl
    rw [e1, Nat.add_zero, show at_ + 1 + p = at_ + (p + 1) by omega]
    congr 2
    apply List.map_congr_left
    intro i _
    show (⟨0, 0, (b.drop (at_ + 1 + i)).take 1⟩ : Tok) = ⟨0, 0, (b.drop (at_ + (i + 1))).take 1⟩
    rw [show at_ + 1 + i = at_ + (i + 1) by omega]
/-- Bytes, one by one. -/
def ones (d : List UInt8) : List Tok := d.map fun x => (⟨0, 0, [x]⟩ : Tok)
theorem right_lit {d : List UInt8} (h : d ≠ []) (hl : d.length ≤ 16384) : Tk.right (⟨0, 0, d⟩ : Tok) = true := right_mk (by simp) (by simp) (by simp) (by simp) (.inr ⟨rfl, rfl, h, hl⟩)
theorem join_ones (d : List UInt8) : ∀ p, p ≤ d.length → p ≤ 16384 → join (ones (d.take p)) = if p = 0 then [] else [⟨0, 0, d.take p⟩] := by
  intro p
  induction p with
  | zero => intro _ _; rfl
  | succ p ih =>
    intro h1 h2
    have e : d.take (p + 1) = d.take p ++ [d[p]] := List.take_succ_eq_append_getElem (by omega)
    have hr : Tk.right (⟨0, 0, [d[p]]⟩ : Tok) = true := right_lit (by simp) (by simp)
    have ih' := ih (by omega) (by omega)
    unfold join at ih' ⊢
    rw [e]
    unfold ones at ih' ⊢
    rw [List.map_append, List.foldl_append, ih', if_neg (Nat.succ_ne_zero p)]
    show Tk.step (if p = 0 then [] else [(⟨0, 0, d.take p⟩ : Tok)]) ⟨0, 0, [d[p]]⟩ = _
    rw [step_good hr]
    by_cases hp : p = 0
    · subst hp
      rw [if_pos rfl]
      rfl
    · rw [if_neg hp]
      have hlen : (d.take p).length = p := by rw [List.length_take]; omega
      have h2' : two (⟨0, 0, d.take p⟩ : Tok) ⟨0, 0, [d[p]]⟩ = some ⟨0, 0, d.take p ++ [d[p]]⟩ := by
        unfold two
        simp [hlen]
        omega
      have := push_last [] (⟨0, 0, d.take p⟩ : Tok) ⟨0, 0, [d[p]]⟩
      rw [List.nil_append] at this
      rw [this, h2']
      rfl
theorem bytes_ones (d : List UInt8) : Tk.bytes (ones d) = d.length := by
  induction d with
  | nil => rfl
  | cons x d ih =>
    have e : ones (x :: d) = [⟨0, 0, [x]⟩] ++ ones d := rfl
    rw [e, bytes_append, ih, bytes_one, if_pos (right_lit (by simp) (by simp))]
    simp
    omega
/-- Literal bytes are joined to one token. -/
theorem join_lit (a c : List Tok) (b : List UInt8) (f t : Nat) (ht : t ≤ b.length) (hb : Tk.bytes a + (t - f) ≤ 16384) : join (a ++ (ones ((b.drop f).take (t - f)) ++ c)) = join (a ++ (lit b f t ++ c)) := by
  have hl : ((b.drop f).take (t - f)).length = t - f := by rw [List.length_take, List.length_drop]; omega
  have hj : join (ones ((b.drop f).take (t - f))) = lit b f t := by
    have := join_ones ((b.drop f).take (t - f)) (t - f) (by omega) (by omega)
    rw [List.take_of_length_le (by omega)] at this
    rw [this]
    unfold lit
    by_cases h : f < t
    · rw [if_neg (by omega), if_pos h]
    · rw [if_pos (by omega), if_neg h]
  unfold join
  rw [List.foldl_append, List.foldl_append, List.foldl_append, List.foldl_append]
  congr 1
  have := fold_join (ones ((b.drop f).take (t - f))) (join a) (join_all a) (by rw [bytes_join, bytes_ones, hl]; exact hb)
  rw [hj] at this
  exact this.symm
end Se
end Go.Proofs.Ytalkmkplmbmnkaa
namespace Go.Proofs.Ytalkmkplmbmnkaa
open Sg Tk
namespace Se
/-- The block in the window at a place, p behind where the search stands. -/
def winK (s : Sig) (b : List UInt8) (at_ : Nat) (last : Int) (p : Nat) : Option Nat := whichP s.bs (sign ((b.drop (at_ + p)).take s.size.toNat)) (if p = 0 then last else -1)
/-- How many windows there are. -/
def winN (s : Sig) (b : List UInt8) (at_ : Nat) : Nat := b.length + 1 - (at_ + s.size.toNat)
/-- The first window that is a block: its place, and the block. -/
def hit (s : Sig) (b : List UInt8) (at_ : Nat) (last : Int) : Option (Nat × Nat) := (List.range (winN s b at_)).findSome? fun p => (winK s b at_ last p).map fun k => (p, k)
def huntF (s : Sig) (b : List UInt8) : Nat → Nat → Int → List Tok
  | 0, _, _ => []
  | n + 1, at_, last => match hit s b at_ last with
    | some (p, k) => lit b at_ (at_ + p) ++ (⟨(k : Int), 1, []⟩ :: huntF s b n (at_ + p + s.size.toNat) ((k : Int) + 1))
    | none => if tailP s b at_ then lit b at_ (b.length - s.tail.toNat) ++ [⟨(s.bs.length : Int), 1, []⟩] else lit b at_ b.length
theorem hit_some {s : Sig} {b : List UInt8} {at_ p k : Nat} {last : Int} (h : hit s b at_ last = some (p, k)) : p < winN s b at_ ∧ winK s b at_ last p = some k ∧ ∀ i, i < p → winK s b at_ last i = none := by
  unfold hit at h
  rw [List.findSome?_eq_some_iff] at h
  obtain ⟨l1, a, l2, e, h1, h2⟩ := h
  obtain ⟨k', hk, e2⟩ := Option.map_eq_some_iff.1 h1
  injection e2 with e3 e4
  subst e3
  subst e4
  have hl : l1.length = a := by
    have : (List.range (winN s b at_))[l1.length]? = some a := by rw [e]; simp
    rw [List.getElem?_eq_some_iff] at this
    obtain ⟨_, h⟩ := this
    simpa using h
  have hlt : a < winN s b at_ := by
    have : a ∈ List.range (winN s b at_) := by rw [e]; simp
    simpa using this
  refine ⟨hlt, hk, fun i hi => ?_⟩
  have : i ∈ l1 := by
    have h3 : (List.range (winN s b at_))[i]? = some i := by rw [List.getElem?_range (by omega)]
    rw [e, List.getElem?_append_left (by omega)] at h3
    exact List.mem_of_getElem? h3
  have := h2 i this
  rwa [Option.map_eq_none_iff] at this
theorem hit_none {s : Sig} {b : List UInt8} {at_ : Nat} {last : Int} (h : hit s b at_ last = none) (i : Nat) (hi : i < winN s b at_) : winK s b at_ last i = none := by
  unfold hit at h
  rw [List.findSome?_eq_none_iff] at h
  have := h i (by simpa using hi)
  rwa [Option.map_eq_none_iff] at this
theorem step_win {s : Sig} {b : List UInt8} {at_ i : Nat} {last : Int} (hr : Sg.right s = true) (hi : i < winN s b at_) : stepP s b (at_ + i) (if i = 0 then last else -1) = (winK s b at_ last i).map fun k => (k, s.size.toNat) := by
  have := right_pos hr
  unfold stepP winN at *
  rw [if_pos ⟨hr, by omega⟩]
  rfl
theorem step_late {s : Sig} {b : List UInt8} {at_ : Nat} {last : Int} (hr : Sg.right s = true) (h : b.length < at_ + s.size.toNat) : stepP s b at_ last = if 0 < s.tail ∧ (b.length : Int) - (at_ : Int) = s.tail ∧ sign (b.drop at_) = s.last then some (s.bs.length, s.tail.toNat) else none := by
  have := right_pos hr
  unfold stepP
  rw [if_neg (by omega)]
  by_cases hc : 0 < s.tail ∧ (b.length : Int) - (at_ : Int) = s.tail ∧ sign (b.drop at_) = s.last
  · rw [if_pos ⟨hr, hc⟩, if_pos hc]
  · rw [if_neg (fun h => hc h.2), if_neg hc]
theorem ones_eq (b : List UInt8) (f p : Nat) (h : f + p ≤ b.length) : ((List.range p).map fun i => (⟨0, 0, (b.drop (f + i)).take 1⟩ : Tok)) = ones ((b.drop f).take p) := by
  apply List.ext_getElem
  · simp [ones]; omega
  · intro i h1 h2
    simp only [ones, List.getElem_map, List.getElem_range, List.getElem_take, List.getElem_drop, Tok.mk.injEq, true_and]
    have hi : i < p := by simpa using h1
    rw [List.drop_eq_getElem_cons (show f + i < b.length by omega)]
    rfl
theorem bytes_copy (k : Nat) (hk : k ≤ 4096) : Tk.bytes [(⟨(k : Int), 1, []⟩ : Tok)] = 0 := by
  rw [bytes_one]
  split <;> rfl
theorem bytes_lit (b : List UInt8) (f t : Nat) : Tk.bytes (lit b f t) ≤ t - f := by
  unfold lit
  split
  · rw [bytes_one]
    split
    · simp only [List.length_take, List.length_drop]; omega
    · omega
  · simp [Tk.bytes]
/-- What the program finds from a place on is, joined, what the document finds. -/
theorem hunt_find (s : Sig) (b : List UInt8) (hr : Sg.right s = true) (hb : b.length ≤ 16384) : ∀ (n at_ : Nat) (last : Int) (pre : List Tok), b.length - at_ < n → at_ ≤ b.length → Tk.bytes pre ≤ at_ → join (pre ++ huntF s b n at_ last) = join (pre ++ findP s b at_ last) := by
  obtain ⟨z1, z2, z3, z4⟩ := right_pos hr
  intro n
  induction n with
  | zero => intro at_ last pre h; omega
  | succ n ih =>
    intro at_ last pre h hat hp
    unfold huntF
    cases e : hit s b at_ last with
    | some q =>
      obtain ⟨p, k⟩ := q
      obtain ⟨h1, h2, h3⟩ := hit_some e
      have hw : at_ + p + s.size.toNat ≤ b.length := by unfold winN at h1; omega
      have hst : stepP s b (at_ + p) (if p = 0 then last else -1) = some (k, s.size.toNat) := by rw [step_win hr h1, h2]; rfl
      have hk := (step_pos hst).2.2
      have hbs := (right_spec hr).2.2.1
      simp only
      rw [findP_skip p at_ last (by omega) (fun i hi => by rw [step_win hr (by omega), h3 i hi]; rfl), findP_some (by omega) hst, ones_eq b at_ p (by omega)]
      have e1 := join_lit pre (⟨(k : Int), 1, []⟩ :: findP s b (at_ + p + s.size.toNat) ((k : Int) + 1)) b at_ (at_ + p) (by omega) (by omega)
      rw [Nat.add_sub_cancel_left] at e1
      rw [e1]
      have := ih (at_ + p + s.size.toNat) ((k : Int) + 1) (pre ++ (lit b at_ (at_ + p) ++ [⟨(k : Int), 1, []⟩])) (by omega) hw (by
        have q1 := bytes_lit b at_ (at_ + p)
        rw [bytes_append, bytes_append, bytes_copy k (by omega)]
        omega)
      simpa [List.append_assoc] using this
    | none =>
      simp only
      by_cases ht : tailP s b at_ = true
      · rw [if_pos ht]
        have ht' := ht
        unfold tailP at ht'
        simp only [Bool.and_eq_true, decide_eq_true_eq, beq_iff_eq] at ht'
        obtain ⟨⟨t1, t2⟩, t3⟩ := ht'
        have hq : at_ + (b.length - s.tail.toNat - at_) = b.length - s.tail.toNat := by omega
        have hst : ∀ nx, stepP s b (b.length - s.tail.toNat) nx = some (s.bs.length, s.tail.toNat) := fun nx => by
          rw [step_late hr (by omega), if_pos ⟨t1, by omega, t3⟩]
        rw [findP_skip (b.length - s.tail.toNat - at_) at_ last (by omega) (fun i hi => ?_), hq, findP_some (by omega) (hst _), findP_end (by omega), ones_eq b at_ _ (by omega)]
        · exact (join_lit pre [⟨(s.bs.length : Int), 1, []⟩] b at_ (b.length - s.tail.toNat) (by omega) (by omega)).symm
        · rcases Nat.lt_or_ge i (winN s b at_) with hw | hw
          · rw [step_win hr hw, hit_none e i hw]; rfl
          · rw [step_late hr (by unfold winN at hw; omega), if_neg (by omega)]
      · rw [if_neg ht]
        rw [findP_skip (b.length - at_) at_ last (by omega) (fun i hi => ?_), findP_end (by omega), ones_eq b at_ _ (by omega)]
        · have := (join_lit pre [] b at_ b.length (by omega) (by omega)).symm
          simpa using this
        · rcases Nat.lt_or_ge i (winN s b at_) with hw | hw
          · rw [step_win hr hw, hit_none e i hw]; rfl
          · rw [step_late hr (by unfold winN at hw; omega), if_neg]
            rintro ⟨c1, c2, c3⟩
            apply ht
            unfold tailP
            rw [decide_eq_true c1, decide_eq_true (by omega), show b.length - s.tail.toNat = at_ + i by omega, c3]
            simp
/-- A signature that is not right is none. -/
def blank : Sig := ⟨64, [], 0, zero⟩
theorem step_wrong {s : Sig} (h : Sg.right s = false) (b : List UInt8) (at_ : Nat) (next : Int) : stepP s b at_ next = none := by
  unfold stepP
  rw [h]
  simp
theorem step_blank (b : List UInt8) (at_ : Nat) (next : Int) : stepP blank b at_ next = none := by
  have hw : ∀ x, whichP blank.bs x next = none := fun x => by
    unfold whichP blank
    simp
  unfold stepP
  rw [hw]
  split
  · rfl
  · rw [if_neg]
    rintro ⟨_, h, _⟩
    simp [blank] at h
theorem findF_same {s t : Sig} {b : List UInt8} (h1 : ∀ a n, stepP s b a n = none) (h2 : ∀ a n, stepP t b a n = none) : ∀ (n at_ : Nat) (next : Int), findF s b n at_ next = findF t b n at_ next := by
  intro n
  induction n with
  | zero => intro _ _; rfl
  | succ n ih =>
    intro at_ next
    unfold findF
    rw [h1, h2]
    simp only [ih]
theorem right_blank : Sg.right blank = true := right_mk (by decide) (by decide) (by decide) (by decide) (by decide) (.inr rfl)
/-- The program's search, whatever the signature is. -/
def huntP (s : Sig) (b : List UInt8) : List Tok := join (huntF (if Sg.right s then s else blank) b (b.length + 1) 0 (-1))
theorem huntP_eq (s : Sig) (b : List UInt8) (hb : b.length ≤ 16384) : huntP s b = refOf s b := by
  unfold huntP refOf
  cases h : Sg.right s with
  | true =>
    rw [if_pos rfl]
    exact hunt_find s b h hb (b.length + 1) 0 (-1) [] (by omega) (by omega) (by simp [Tk.bytes])
  | false =>
    rw [if_neg (by simp)]
    have e := hunt_find blank b right_blank hb (b.length + 1) 0 (-1) [] (by omega) (by omega) (by simp [Tk.bytes])
    rw [List.nil_append, List.nil_append] at e
    rw [e]
    unfold findP
    rw [findF_same (fun a n => step_blank b a n) (fun a n => step_wrong h b a n)]
end Se
end Go.Proofs.Ytalkmkplmbmnkaa
namespace Go.Proofs.Ytalkmkplmbmnkaa
open Go Go.RowKit Go.Shelf W Sg Tk Go.Maps Go.ChangeMaps Go.MapKept Go.ChangeShapes
namespace Se
theorem grown_pre {w w' w1 : World} {r : Option Nat} (k : Gr w w') (h : w'.grownBy w1 r) : w.grownBy w1 r :=
  ⟨(World.grownBy.os h).trans k.os, (World.grownBy.tape h).trans k.tape, (World.grownBy.output h).trans k.output, Nat.le_trans k.size (World.grownBy.size h), fun i hi hn => (World.grownBy.block h i (Nat.lt_of_lt_of_le hi k.size) hn).trans (k.block i hi)⟩
/-- What the look-up hands over: the slice at a weak sum, and the way back. -/
def isGrp (mb n : Nat) (D : DataW Unit) (x : UInt32) : Ass := fun v w => ∃ zs, D.atKey (.int .u32 (n32 x)) .nil = rowDatum .i64 v zs ∧ w.ownsInts (mb + 1) 3 .i64 v zs ∧ zs.length ≤ n ∧
  w.groupBack Try.prog 76 31 (mb + 1) 3 .i64 mb n D (.int .u32 (n32 x)) (.int .u32 (n32 x)) v
theorem isGrp_lasts (mb n : Nat) (D : DataW Unit) (x : UInt32) : Lasts (isGrp mb n D x) := fun v w w' k ⟨zs, h1, h2, h3, h4⟩ =>
  ⟨zs, h1, ints_kt (KT2.of_gr (t := 78) (u := 48) k) h2 (by decide) (by decide), h3, fun w1 v' zs' hg ho hl hloc => h4 w1 v' zs' (grown_pre k hg) ho hl (hloc.imp id (fun ⟨g, e, hge⟩ => ⟨g, e, Nat.le_trans k.size hge⟩))⟩
theorem grp_at {w : World} {mb n : Nat} {D : DataW Unit} (h : w.ownsGroups Try.prog 31 (mb + 1) 3 .i64 mb n D) (hn : n ≤ 1000000) (x : UInt32) : ∃ v, (Instr.lookup 76 (.map (some mb)) (.int .u32 (n32 x)) false).run Try.prog w = .ok v w ∧ isGrp mb n D x v w := by
  obtain ⟨v, zs, hrun, hat, ho, hzl, hback⟩ := h.at law32 Try.underlying76 (zeroInts w) (by unfold maxLen; omega) (key32 x)
  exact ⟨v, hrun, zs, hat, ho, hzl, hback⟩
theorem grp_zs {w : World} {mb : Nat} {bs : List Sign} {D : DataW Unit} {x : UInt32} {v : Value} {zs : List Int} (hI : ∀ x : UInt32, itemsD (D.atKey (.int .u32 (n32 x)) .nil) = lits .i64 (weakIdx bs x)) (hat : D.atKey (.int .u32 (n32 x)) .nil = rowDatum .i64 v zs) (ho : w.ownsInts (mb + 1) 3 .i64 v zs) : zs = weakIdx bs x := by
  have := hI x
  rw [hat] at this
  rcases ho.datum (H := Unit) with ⟨hd, hz⟩ | hd
  · rw [hd] at this
    rw [hz]
    exact lits_inj (by rw [← this]; rfl)
  · rw [hd] at this
    exact lits_inj this
theorem wm_put {w w9 w2 : World} {mb : Nat} {bs : List Sign} {s : Sign} {D : DataW Unit} {v v9 : Value} {zs : List Int} (h0 : w.ownsGroups Try.prog 31 (mb + 1) 3 .i64 mb bs.length D) (hI : ∀ x : UInt32, itemsD (D.atKey (.int .u32 (n32 x)) .nil) = lits .i64 (weakIdx bs x))
    (hat : D.atKey (.int .u32 (n32 s.1)) .nil = rowDatum .i64 v zs) (ho : w.ownsInts (mb + 1) 3 .i64 v zs) (ho9 : w9.ownsInts (mb + 1) 3 .i64 v9 (zs ++ [(bs.length : Int)]))
    (h2 : w2.ownsGroups Try.prog 31 (mb + 1) 3 .i64 mb (bs.length + 1) (D.put (.int .u32 (n32 s.1)) (rowDatum .i64 v9 (zs ++ [(bs.length : Int)])))) : WM w2 mb (bs ++ [s]) := by
  have hz := grp_zs hI hat ho
  refine ⟨_, by rw [List.length_append]; exact h2, fun x => ?_⟩
  rw [weakIdx_snoc]
  by_cases hx : s.1 = x
  · subst hx
    rw [atKey_put_same (by obtain ⟨es, _, _, _, _, rfl, _⟩ := h0; exact ⟨_, rfl⟩) (by trivial), ho9.datum_pos (by simp), hz]
    simp [itemsD]
  · have hne : (Lit.int .u32 (n32 x)) ≠ .int .u32 (n32 s.1) := fun e => hx (by
      injection e with _ e
      rw [n32_inj] at e
      exact e.symm)
    rw [atKey_put_other hne, hI x]
    simp [hx]
end Se
end Go.Proofs.Ytalkmkplmbmnkaa
namespace Go.Proofs.Ytalkmkplmbmnkaa
open Go Go.RowKit Go.Shelf W
attribute [local go_sem] Oper.semAt_some
namespace Roll
/-- The windows' sums: the first k. -/
def upto (bs : List UInt8) (n k : Nat) : List (Nat × UInt32) := (List.range k).map fun j => (j, of ((bs.drop j).take n))
theorem upto_succ (bs : List UInt8) (n k : Nat) : upto bs n (k + 1) = upto bs n k ++ [(k, of ((bs.drop k).take n))] := by simp [upto, List.range_succ]
theorem upto_length (bs : List UInt8) (n k : Nat) : (upto bs n k).length = k := by simp [upto]
def enc (x : Nat × UInt32) : Array Value := #[.int .i64 (x.1 : Int), .int .u32 (n32 x.2)]
theorem gr_grown {w w' : World} (h : Gr w w') : w.grownBy w' none := ⟨h.os, h.tape, h.output, h.size, fun k hk _ => h.block k hk⟩
/-- The next window's sum. -/
theorem roll_next (bs : List UInt8) (n k : Nat) (hn : 1 ≤ n) (h : k + n < bs.length) (o i : UInt8) (ho : bs[k]? = some o) (hi : bs[k + n]? = some i) :
    roll (of ((bs.drop k).take n)) (UInt16.ofNat n) o i = of ((bs.drop (k + 1)).take n) := by
  obtain ⟨n, rfl⟩ : ∃ j, n = j + 1 := ⟨n - 1, by omega⟩
  have hk : k < bs.length := by omega
  have e1 : (bs.drop k).take (n + 1) = o :: (bs.drop (k + 1)).take n := by
    rw [List.drop_eq_getElem_cons hk, List.take_succ_cons]
    congr 1
    rw [List.getElem?_eq_getElem hk] at ho
    exact Option.some.inj ho
  have e2 : (bs.drop (k + 1)).take (n + 1) = (bs.drop (k + 1)).take n ++ [i] := by
    rw [List.take_add_one]
    congr 1
    rw [List.getElem?_drop, show k + 1 + n = k + (n + 1) from by omega, hi]
    rfl
  have e3 : ((bs.drop (k + 1)).take n).length = n := by simp; omega
  rw [e1, e2]
  have := roll_of o ((bs.drop (k + 1)).take n) i
  rw [e3] at this
  exact this

set_option maxRecDepth 100000 in
set_option maxHeartbeats 2000000 in
theorem windows1_in (m : Nat) (hm : 1 ≤ m) (l Bn Bb n₀ : Nat) (A : Option Addr) (c n : Nat) (bs : List UInt8) (hs : bs.length ≤ 1099511627776) (hc : bs.length ≤ c) (hcm : c ≤ maxLen) (hn1 : 1 ≤ n) (hn2 : n ≤ bs.length)
    (J Jx : List (Nat × UInt32) → World → Prop) (W : World) (hJ : AbidesFrom W.heap.size J)
    (hY : ∀ pre x W1, J pre W1 → pre.length < bs.length - n + 1 → YieldAt Fence.wide (m - 1) Try.prog l (enc x) W1 fun e W' =>
      (e = .returned (.bool true) ∧ J (pre ++ [x]) W' ∧ Below n₀ W1 W') ∨ (e = .returned (.bool false) ∧ Jx (pre ++ [x]) W'))
    (hBn : Bn < n₀) (hBb : Bb < n₀) (hn₀ : n₀ ≤ W.heap.size) (cn : W.cell? ⟨Bn, 0, none⟩ = some (.int .i64 (n : Int))) (cb : W.cell? ⟨Bb, 0, none⟩ = some (.slice A bs.length c)) (hr : RB W n₀ A bs) (h0 : J [] W) :
    CallsIn Fence.wide m Try.prog 50 #[.func (.yield l) #[] #[], .pointer (some ⟨Bn, 0, none⟩), .pointer (some ⟨Bb, 0, none⟩)] W fun e W' => (∃ v, e = .returned v) ∧
      ((∃ ys, ys = upto bs n (bs.length - n + 1) ∧ J ys W') ∨ (∃ pre, (∃ k, k ≤ bs.length - n + 1 ∧ pre = upto bs n k) ∧ Jx pre W')) := by
  have hof := Lib.hid (of_any A c n₀ (bs.take n) W (by simp; omega) hn₀ (hr.take hn2))
  have hro := Lib.hid (fun s o i w => roll_any s n o i w (by omega))
  have hrh := Lib.hid hr
  have hYh := Lib.hid hY
  have hJh := Lib.hid hJ
  clear hr hY hJ
  have g1 : ¬ ((n : Int) < 1) := by omega
  have g2 : ¬ ((bs.length : Int) < (n : Int)) := by omega
  have g3 : (n : Int) ≤ (c : Int) := by omega
  have g4 : 0 ≤ (n : Int) := by omega
  have lt : (bs.take n).length = n := by simp; omega
  rw [lt] at hof
  refine callsIn_of_wp Try.func50 rfl trivial ?_ rfl
  simp only [Try.ntmps50, List.size_toArray, List.length_cons, List.length_nil, Nat.reduceAdd, Nat.reduceSub, Array.replicate_succ, Array.replicate_zero, List.push_toArray, List.append_toArray, List.nil_append, List.cons_append]
  gi_wp2_with (refine ⟨trivial, ?_⟩; gi_at_call 35; refine (callsIn_wide.2 hof.out).mono ?_; clear hof; rintro e W0 ⟨rfl, hg0⟩; have hg0h := Lib.hid hg0; clear hg0)
  gi_loopw [5, 4] (fun i v wr => ∃ k : Nat, k + n ≤ bs.length ∧ i = .int .i64 (k : Int) ∧ v = .int .u32 (n32 (of ((bs.drop k).take n))) ∧ J (upto bs n k) wr ∧ Below n₀ W wr)
    (fun i _ _ => bs.length - (intOf i).toNat)
  case atStart => exact ⟨0, by omega, rfl, by simp, hJh.out _ _ _ none h0 (gr_grown hg0h.out) (by simp), hg0h.out.mono hn₀⟩
  case round =>
    obtain ⟨k, hk, rfl, rfl, hJs, hnx⟩ := hrel
    have hcn := fun w' (h : Below n₀ wr w') => ((hnx.trans h).cell (p := ⟨Bn, 0, none⟩) hBn).trans cn
    have hcb := fun w' (h : Below n₀ wr w') => ((hnx.trans h).cell (p := ⟨Bb, 0, none⟩) hBb).trans cb
    obtain ⟨fn, tmps, assign, body, hy, hR⟩ := hYh.out _ (k, of ((bs.drop k).take n)) wr hJs (by rw [upto_length]; omega)
    dsimp only [enc] at hy
    gi_wp2
    refine hR.mono ?_
    rintro e W3 (⟨rfl, hJ3, hk3⟩ | ⟨rfl, hJx3⟩)
    · have cn3 := hcn W3 hk3
      have cb3 := hcb W3 hk3
      have hr3 := hrh.out.below (hnx.trans hk3)
      by_cases hlt : k + n = bs.length
      · have e1 : ((n : Int) == (bs.length : Int) - (k : Int)) = true := by simp; omega
        gi_wp2
        refine bodyPost_ret (results_none rfl _ _ _) rfl ?_
        refine ⟨⟨_, rfl⟩, .inl ⟨_, rfl, ?_⟩⟩
        rw [show bs.length - n + 1 = k + 1 from by omega, upto_succ]
        exact hJ3
      · have e1 : ((n : Int) == (bs.length : Int) - (k : Int)) = false := by simp; omega
        obtain ⟨ad, rfl, hadb, hc1⟩ := hr3.at_ (k := k) (by omega)
        obtain ⟨ad2, e2, _, hc2⟩ := hr3.at_ (k := k + n) (by omega)
        obtain rfl := Option.some.inj e2
        have hc2' : W3.cell? (ad.add ((k : Int) + (n : Int)).toNat) = some (.int .u8 (n8 (bs[k + n]'(by omega)))) := by rw [show ((k : Int) + (n : Int)).toNat = k + n from by omega]; exact hc2
        have k1 : IntKind.i64.wrap ((k : Int) + (n : Int)) = (k : Int) + (n : Int) := IntWalk.i64_in _ (by omega)
        have k2 : 0 ≤ (k : Int) + (n : Int) := by omega
        have k3 : (k : Int) + (n : Int) < (bs.length : Int) := by omega
        have k4 : 0 ≤ (k : Int) := by omega
        have k5 : (k : Int) < (bs.length : Int) := by omega
        have k6 : (k : Int).toNat = k := by omega
        clear hr3 e2
        gi_wp2
        refine wpIn_wide.2 ?_
        go_quiet ((go_at_call 51; refine (hro.out _ _ _ _).mono ?_; rintro e w' ⟨rfl, rfl⟩; exact ⟨rfl, _, rfl⟩))
        rename_i nq
        rw [roll_next bs n k hn1 (by omega) _ _ (List.getElem?_eq_getElem (by omega)) (List.getElem?_eq_getElem (by omega))]
        clear hc1 hc2 hc2' cb3 cn3
        gi_wp2
        go_roundw
        case rel =>
          refine ⟨k + 1, by omega, by simp, rfl, ?_, below_drewN (hnx.trans hk3) _⟩
          rw [upto_succ]
          exact hJh.out _ _ _ none hJ3 (gr_grown (below_drewN (Below.refl _ _) _)) (by simp)
        case measure => simp [intOf]; omega
    · gi_wp2
      go_end0
      exact ⟨⟨_, rfl⟩, .inr ⟨_, ⟨k + 1, by omega, (upto_succ _ _ _).symm⟩, hJx3⟩⟩

set_option maxRecDepth 100000 in
set_option maxHeartbeats 1000000 in
theorem windows1_bad (m : Nat) (l Bn Bb : Nat) (A : Option Addr) (c len : Nat) (n : Int) (hn : n < 1 ∨ (len : Int) < n) (J : List (Nat × UInt32) → World → Prop) (W : World)
    (cn : W.cell? ⟨Bn, 0, none⟩ = some (.int .i64 n)) (cb : W.cell? ⟨Bb, 0, none⟩ = some (.slice A len c)) (h0 : J [] W) :
    CallsIn Fence.wide m Try.prog 50 #[.func (.yield l) #[] #[], .pointer (some ⟨Bn, 0, none⟩), .pointer (some ⟨Bb, 0, none⟩)] W fun e W' => (∃ v, e = .returned v) ∧ J [] W' := by
  refine callsIn_of_wp Try.func50 rfl trivial ?_ rfl
  simp only [Try.ntmps50, List.size_toArray, List.length_cons, List.length_nil, Nat.reduceAdd, Nat.reduceSub, Array.replicate_succ, Array.replicate_zero, List.push_toArray, List.append_toArray, List.nil_append, List.cons_append]
  by_cases g1 : n < 1
  · gi_wp2
    refine bodyPost_ret (results_none rfl _ _ _) rfl ?_
    exact ⟨⟨_, rfl⟩, h0⟩
  · have g2 : (len : Int) < n := by omega
    gi_wp2
    refine bodyPost_ret (results_none rfl _ _ _) rfl ?_
    exact ⟨⟨_, rfl⟩, h0⟩

set_option maxRecDepth 100000 in
set_option maxHeartbeats 1000000 in
/-- roll.Windows: two boxes; the function value captures both. -/
theorem windows_any (A : Option Addr) (len c : Nat) (n : Int) (w : World) :
    Calls Try.prog 37 #[.slice A len c, .int .i64 n] w fun e w' =>
      e = .returned (.func (.func 50) #[] #[.pointer (some ⟨w.heap.size + 1, 0, none⟩), .pointer (some ⟨w.heap.size, 0, none⟩)]) ∧
      w' = (w.alloc (.cells #[.slice A len c] 22)).alloc (.cells #[.int .i64 n] 3) := by
  have hmf : ∀ (fn : Fn) (first cap : Array Value) (w : World), (Instr.makeFunc fn first cap).run Try.prog w = .ok (.func fn first cap) w := fun _ _ _ _ => rfl
  go_enter Try.func37, Try.ntmps37
  go_wp2
  go_ret
  exact ⟨rfl, rfl⟩

/-- What the iterator tells, for whatever n: all of these. -/
def wins (bs : List UInt8) (n : Int) : List (Nat × UInt32) := if 1 ≤ n ∧ n ≤ bs.length then upto bs n.toNat (bs.length - n.toNat + 1) else []
theorem windows_stops (m : Nat) (hm : 1 ≤ m) (Bn Bb n₀ : Nat) (A : Option Addr) (c : Nat) (n : Int) (bs : List UInt8) (hs : bs.length ≤ 1099511627776) (hc : bs.length ≤ c) (hcm : c ≤ maxLen) (w : World)
    (hBn : Bn < n₀) (hBb : Bb < n₀) (hn₀ : n₀ ≤ w.heap.size) (cn : w.cell? ⟨Bn, 0, none⟩ = some (.int .i64 n)) (cb : w.cell? ⟨Bb, 0, none⟩ = some (.slice A bs.length c)) (hr : RB w n₀ A bs) :
    SeqStopsK Fence.wide m Try.prog 50 #[.pointer (some ⟨Bn, 0, none⟩), .pointer (some ⟨Bb, 0, none⟩)] enc (Below n₀) (fun ys => ys = wins bs n)
      (fun pre => ∃ k, k ≤ (wins bs n).length ∧ pre = (wins bs n).take k) (wins bs n).length w := fun l J Jx W hW hJ hJx hY h0 => by
  have hb := hW.mono hn₀
  have cn' := (hb.cell (p := ⟨Bn, 0, none⟩) hBn).trans cn
  have cb' := (hb.cell (p := ⟨Bb, 0, none⟩) hBb).trans cb
  by_cases h : 1 ≤ n ∧ n ≤ bs.length
  · obtain ⟨k, rfl⟩ : ∃ k : Nat, n = (k : Int) := ⟨n.toNat, by omega⟩
    have e : wins bs k = upto bs k (bs.length - k + 1) := by unfold wins; rw [if_pos h]; rfl
    rw [e] at hY ⊢
    simp only [upto_length] at hY ⊢
    refine (windows1_in m hm l Bn Bb n₀ A c k bs hs hc hcm (by omega) (by omega) J Jx W hJ hY hBn hBb (Nat.le_trans hn₀ hW.size) cn' cb' (hr.below hb) h0).mono ?_
    rintro e W' ⟨he, ⟨ys, rfl, hj⟩ | ⟨pre, ⟨j, hj1, rfl⟩, hj⟩⟩
    · exact ⟨he, .inl ⟨_, rfl, hj⟩⟩
    · refine ⟨he, .inr ⟨_, ⟨j, hj1, ?_⟩, hj⟩⟩
      unfold upto
      rw [← List.map_take, List.take_range, Nat.min_eq_left hj1]
  · have e : wins bs n = [] := by unfold wins; rw [if_neg h]
    refine (windows1_bad m l Bn Bb A c bs.length n (by omega) J W cn' cb' h0).mono ?_
    rintro e' W' ⟨he, hj⟩
    exact ⟨he, .inl ⟨_, rfl, by rw [e]; exact hj⟩⟩
end Roll
end Go.Proofs.Ytalkmkplmbmnkaa
namespace Go.Proofs.Ytalkmkplmbmnkaa
open Go Go.RowKit Go.Shelf W
attribute [local go_sem] Oper.semAt_some
namespace Roll
/-- A window's place. -/
abbrev Win (bs : List UInt8) (n : Nat) := {j : Nat // j + n ≤ bs.length}
def encW (bs : List UInt8) (n : Nat) (j : Win bs n) : Array Value := enc (j.1, of ((bs.drop j.1).take n))
set_option maxRecDepth 100000 in
set_option maxHeartbeats 2000000 in
theorem windows1_inK (m : Nat) (hm : 1 ≤ m) (l Bn Bb n₀ : Nat) (A₀ : Option Addr) (c n : Nat) (bs : List UInt8) (hs : bs.length ≤ 1099511627776) (hc : bs.length ≤ c) (hcm : c ≤ maxLen) (hn1 : 1 ≤ n) (hn2 : n ≤ bs.length)
    (Kp : World → World → Prop) (kr : ∀ W, Kp W W) (kt : ∀ {A B C : World}, Kp A B → Kp B C → Kp A C) (m₀ : Nat) (kg : ∀ {A B : World}, Gr A B → m₀ ≤ A.heap.size → Kp A B) (ks : ∀ {A B : World}, Kp A B → A.heap.size ≤ B.heap.size)
    (kn : ∀ {A B : World}, Kp A B → B.cell? ⟨Bn, 0, none⟩ = A.cell? ⟨Bn, 0, none⟩) (kc : ∀ {A B : World}, Kp A B → B.cell? ⟨Bb, 0, none⟩ = A.cell? ⟨Bb, 0, none⟩) (kb : ∀ {A B : World}, Kp A B → RB A n₀ A₀ bs → RB B n₀ A₀ bs)
    (J Jx : List (Win bs n) → World → Prop) (W : World) (hJ : AbidesFrom W.heap.size J)
    (hY : ∀ pre x W1, J pre W1 → pre.length < bs.length + 1 - n → YieldAt Fence.wide (m - 1) Try.prog l (encW bs n x) W1 fun e W' =>
      (e = .returned (.bool true) ∧ J (pre ++ [x]) W' ∧ Kp W1 W') ∨ (e = .returned (.bool false) ∧ Jx (pre ++ [x]) W'))
    (hn₀ : n₀ ≤ W.heap.size) (hm₀ : m₀ ≤ W.heap.size) (cn : W.cell? ⟨Bn, 0, none⟩ = some (.int .i64 (n : Int))) (cb : W.cell? ⟨Bb, 0, none⟩ = some (.slice A₀ bs.length c)) (hr : RB W n₀ A₀ bs) (h0 : J [] W) :
    CallsIn Fence.wide m Try.prog 50 #[.func (.yield l) #[] #[], .pointer (some ⟨Bn, 0, none⟩), .pointer (some ⟨Bb, 0, none⟩)] W fun e W' => (∃ v, e = .returned v) ∧
      ((∃ ys : List (Win bs n), ys.map (·.1) = List.range (bs.length + 1 - n) ∧ J ys W') ∨ (∃ pre : List (Win bs n), (∃ k, k ≤ bs.length + 1 - n ∧ pre.map (·.1) = List.range k) ∧ Jx pre W')) := by
  have hof := Lib.hid (of_any A₀ c n₀ (bs.take n) W (by simp; omega) hn₀ (hr.take hn2))
  have hro := Lib.hid (fun s o i w => roll_any s n o i w (by omega))
  have hrh := Lib.hid hr
  have hYh := Lib.hid hY
  have hJh := Lib.hid hJ
  clear hr hY hJ
  have g1 : ¬ ((n : Int) < 1) := by omega
  have g2 : ¬ ((bs.length : Int) < (n : Int)) := by omega
  have g3 : (n : Int) ≤ (c : Int) := by omega
  have g4 : 0 ≤ (n : Int) := by omega
  have lt : (bs.take n).length = n := by simp; omega
  rw [lt] at hof
  refine callsIn_of_wp Try.func50 rfl trivial ?_ rfl
  simp only [Try.ntmps50, List.size_toArray, List.length_cons, List.length_nil, Nat.reduceAdd, Nat.reduceSub, Array.replicate_succ, Array.replicate_zero, List.push_toArray, List.append_toArray, List.nil_append, List.cons_append]
  gi_wp2_with (refine ⟨trivial, ?_⟩; gi_at_call 35; refine (callsIn_wide.2 hof.out).mono ?_; clear hof; rintro e W0 ⟨rfl, hg0⟩; have hg0h := Lib.hid hg0; clear hg0)
  gi_loopw [5, 4] (fun i v wr => ∃ k : Nat, k + n ≤ bs.length ∧ i = .int .i64 (k : Int) ∧ v = .int .u32 (n32 (of ((bs.drop k).take n))) ∧ (∃ ys : List (Win bs n), ys.map (·.1) = List.range k ∧ J ys wr) ∧ Kp W wr)
    (fun i _ _ => bs.length - (intOf i).toNat)
  case atStart => exact ⟨0, by omega, rfl, by simp, ⟨[], rfl, hJh.out _ _ _ none h0 (gr_grown hg0h.out) (by simp)⟩, kg hg0h.out hm₀⟩
  case round =>
    obtain ⟨k, hk, rfl, rfl, ⟨ys, hys, hJs⟩, hnx⟩ := hrel
    have hyl : ys.length = k := by have := congrArg List.length hys; simpa using this
    have hcn := fun w' (h : Kp wr w') => (kn (kt hnx h)).trans cn
    have hcb := fun w' (h : Kp wr w') => (kc (kt hnx h)).trans cb
    obtain ⟨fn, tmps, assign, body, hy, hR⟩ := hYh.out ys ⟨k, hk⟩ wr hJs (by rw [hyl]; omega)
    dsimp only [encW, enc] at hy
    have hys' : (ys ++ [(⟨k, hk⟩ : Win bs n)]).map (·.1) = List.range (k + 1) := by rw [List.map_append, hys, List.range_succ]; rfl
    replace hys' := Lib.hid hys'
    gi_wp2
    refine hR.mono ?_
    rintro e W3 (⟨rfl, hJ3, hk3⟩ | ⟨rfl, hJx3⟩)
    · have cn3 := hcn W3 hk3
      have cb3 := hcb W3 hk3
      have hr3 := kb (kt hnx hk3) hrh.out
      by_cases hlt : k + n = bs.length
      · have e1 : ((n : Int) == (bs.length : Int) - (k : Int)) = true := by simp; omega
        gi_wp2
        refine bodyPost_ret (results_none rfl _ _ _) rfl ?_
        refine ⟨⟨_, rfl⟩, .inl ⟨_, ?_, hJ3⟩⟩
        rw [show bs.length + 1 - n = k + 1 from by omega]
        exact hys'.out
      · have e1 : ((n : Int) == (bs.length : Int) - (k : Int)) = false := by simp; omega
        obtain ⟨ad, rfl, hadb, hc1⟩ := hr3.at_ (k := k) (by omega)
        obtain ⟨ad2, e2, _, hc2⟩ := hr3.at_ (k := k + n) (by omega)
        obtain rfl := Option.some.inj e2
        have hc2' : W3.cell? (ad.add ((k : Int) + (n : Int)).toNat) = some (.int .u8 (n8 (bs[k + n]'(by omega)))) := by rw [show ((k : Int) + (n : Int)).toNat = k + n from by omega]; exact hc2
        have k1 : IntKind.i64.wrap ((k : Int) + (n : Int)) = (k : Int) + (n : Int) := IntWalk.i64_in _ (by omega)
        have k2 : 0 ≤ (k : Int) + (n : Int) := by omega
        have k3 : (k : Int) + (n : Int) < (bs.length : Int) := by omega
        have k4 : 0 ≤ (k : Int) := by omega
        have k5 : (k : Int) < (bs.length : Int) := by omega
        have k6 : (k : Int).toNat = k := by omega
        have hz3 : m₀ ≤ W3.heap.size := Nat.le_trans hm₀ (ks (kt hnx hk3))
        clear hr3 e2
        gi_wp2
        refine wpIn_wide.2 ?_
        go_quiet ((go_at_call 51; refine (hro.out _ _ _ _).mono ?_; rintro e w' ⟨rfl, rfl⟩; exact ⟨rfl, _, rfl⟩))
        rename_i nq
        rw [roll_next bs n k hn1 (by omega) _ _ (List.getElem?_eq_getElem (by omega)) (List.getElem?_eq_getElem (by omega))]
        clear hc1 hc2 hc2' cb3 cn3
        gi_wp2
        go_roundw
        case rel =>
          exact ⟨k + 1, by omega, by simp, rfl, ⟨_, hys'.out, hJh.out _ _ _ none hJ3 (gr_grown (below_drewN (Below.refl _ _) _)) (by simp)⟩, kt (kt hnx hk3) (kg (below_drewN (Below.refl _ _) _) hz3)⟩
        case measure => simp [intOf]; omega
    · gi_wp2
      go_end0
      exact ⟨⟨_, rfl⟩, .inr ⟨_, ⟨k + 1, by omega, hys'.out⟩, hJx3⟩⟩

set_option maxRecDepth 100000 in
set_option maxHeartbeats 1000000 in
theorem windows1_badK {α : Type} (m : Nat) (l Bn Bb : Nat) (A : Option Addr) (c len : Nat) (n : Int) (hn : n < 1 ∨ (len : Int) < n) (J : List α → World → Prop) (W : World)
    (cn : W.cell? ⟨Bn, 0, none⟩ = some (.int .i64 n)) (cb : W.cell? ⟨Bb, 0, none⟩ = some (.slice A len c)) (h0 : J [] W) :
    CallsIn Fence.wide m Try.prog 50 #[.func (.yield l) #[] #[], .pointer (some ⟨Bn, 0, none⟩), .pointer (some ⟨Bb, 0, none⟩)] W fun e W' => (∃ v, e = .returned v) ∧ J [] W' := by
  refine callsIn_of_wp Try.func50 rfl trivial ?_ rfl
  simp only [Try.ntmps50, List.size_toArray, List.length_cons, List.length_nil, Nat.reduceAdd, Nat.reduceSub, Array.replicate_succ, Array.replicate_zero, List.push_toArray, List.append_toArray, List.nil_append, List.cons_append]
  by_cases g1 : n < 1
  · gi_wp2
    refine bodyPost_ret (results_none rfl _ _ _) rfl ?_
    exact ⟨⟨_, rfl⟩, h0⟩
  · have g2 : (len : Int) < n := by omega
    gi_wp2
    refine bodyPost_ret (results_none rfl _ _ _) rfl ?_
    exact ⟨⟨_, rfl⟩, h0⟩

theorem windows_stopsK (m : Nat) (hm : 1 ≤ m) (Bn Bb n₀ : Nat) (A₀ : Option Addr) (c n : Nat) (bs : List UInt8) (hs : bs.length ≤ 1099511627776) (hc : bs.length ≤ c) (hcm : c ≤ maxLen) (hn1 : 1 ≤ n) (w : World)
    (Kp : World → World → Prop) (kr : ∀ W, Kp W W) (kt : ∀ {A B C : World}, Kp A B → Kp B C → Kp A C) (m₀ : Nat) (kg : ∀ {A B : World}, Gr A B → m₀ ≤ A.heap.size → Kp A B) (ks : ∀ {A B : World}, Kp A B → A.heap.size ≤ B.heap.size)
    (kn : ∀ {A B : World}, Kp A B → B.cell? ⟨Bn, 0, none⟩ = A.cell? ⟨Bn, 0, none⟩) (kc : ∀ {A B : World}, Kp A B → B.cell? ⟨Bb, 0, none⟩ = A.cell? ⟨Bb, 0, none⟩) (kb : ∀ {A B : World}, Kp A B → RB A n₀ A₀ bs → RB B n₀ A₀ bs)
    (hBn : Bn < w.heap.size) (hBb : Bb < w.heap.size) (hn₀ : n₀ ≤ w.heap.size) (hm₀ : m₀ ≤ w.heap.size) (cn : w.cell? ⟨Bn, 0, none⟩ = some (.int .i64 (n : Int))) (cb : w.cell? ⟨Bb, 0, none⟩ = some (.slice A₀ bs.length c)) (hr : RB w n₀ A₀ bs) :
    SeqStopsK Fence.wide m Try.prog 50 #[.pointer (some ⟨Bn, 0, none⟩), .pointer (some ⟨Bb, 0, none⟩)] (encW bs n) Kp (fun ys => ys.map (·.1) = List.range (bs.length + 1 - n))
      (fun pre => ∃ k, k ≤ bs.length + 1 - n ∧ pre.map (·.1) = List.range k) (bs.length + 1 - n) w := fun l J Jx W hW hJ hJx hY h0 => by
  have cn' := (hW.cell (p := ⟨Bn, 0, none⟩) hBn).trans cn
  have cb' := (hW.cell (p := ⟨Bb, 0, none⟩) hBb).trans cb
  by_cases h : n ≤ bs.length
  · exact windows1_inK m hm l Bn Bb n₀ A₀ c n bs hs hc hcm hn1 h Kp kr kt m₀ kg ks kn kc kb J Jx W hJ hY (Nat.le_trans hn₀ hW.size) (Nat.le_trans hm₀ hW.size) cn' cb' (hr.below (hW.mono hn₀)) h0
  · refine (windows1_badK (α := Win bs n) m l Bn Bb A₀ c bs.length n (by omega) J W cn' cb' h0).mono ?_
    rintro e' W' ⟨he, hj⟩
    exact ⟨he, .inl ⟨[], by rw [show bs.length + 1 - n = 0 by omega]; rfl, hj⟩⟩
end Roll
end Go.Proofs.Ytalkmkplmbmnkaa
namespace Go.Proofs.Ytalkmkplmbmnkaa
open Go Go.RowKit W
namespace Tk
/-- All of them lie in their ranges. -/
def Fits (l : List Tok) : Prop := l.length ≤ 1099511627776 ∧ ∀ t ∈ l, Fit t
theorem bytes_snoc (l : List Tok) (k : Nat) (h : k < l.length) : bytes (l.take (k + 1)) = bytes (l.take k) + if right l[k] then (l[k]).d.length else 0 := by
  rw [List.take_succ_eq_append_getElem h, bytes_append, bytes_one]
theorem bytes_le (l : List Tok) (hf : ∀ t ∈ l, Fit t) : bytes l ≤ l.length * 16384 := by
  induction l with
  | nil => simp [bytes]
  | cons t l ih =>
    have := ih (fun x hx => hf x (by simp [hx]))
    rw [show t :: l = [t] ++ l from rfl, bytes_append, bytes_one, List.length_append, List.length_singleton]
    cases hr : right t
    · simp only [Bool.false_eq_true, if_false]; omega
    · simp only [if_true]
      have := (right_fit hr).2
      omega
set_option maxRecDepth 100000 in
set_option maxHeartbeats 2000000 in
theorem bytes_any (A : Option Addr) (c : Nat) (l : List Tok) (w : World) (hl : TR w w.heap.size A l) (hf : Fits l) (hk40 : l.length ≤ 1000000) :
    Calls Try.prog 29 #[.slice A l.length c] w fun e w' => e = .returned (.int .i64 (bytes l : Int)) ∧ Gr w w' := by
  have hl' := Lib.hid hl
  have hf' := Lib.hid hf.2
  clear hl hf
  go_enter Try.func29, Try.ntmps29
  go_wp2
  go_loopw [3, 5, 8] (fun n _ i wr => ∃ k : Nat, k ≤ l.length ∧ i = .int .i64 (k : Int) ∧ n = .int .i64 (bytes (l.take k) : Int) ∧ Gr w wr) (fun _ _ i _ => l.length - (intOf i).toNat)
  case atStart => exact ⟨0, by omega, rfl, rfl, Gr.refl w⟩
  case round =>
    obtain ⟨k, hk, rfl, rfl, hg⟩ := hrel
    by_cases h : k < l.length
    · obtain ⟨ad, hA, hlt, c0, c1, c2⟩ := (hl'.out.below hg).at_ h
      subst hA
      have hb := bytes_snoc l k h
      have hbl := bytes_le (l.take k) (fun t ht => hf'.out t (List.mem_of_mem_take ht))
      rw [List.length_take] at hbl
      have hbl2 : bytes (l.take k) ≤ 1000000 * 16384 := Nat.le_trans hbl (Nat.mul_le_mul_right _ (by omega))
      have hfk := hf'.out l[k] (List.getElem_mem h)
      clear hbl
      generalize l[k] = t at *
      obtain ⟨f, m, d⟩ := t
      have hro := Lib.hid (fun w => right_any ⟨f, m, d⟩ w hfk)
      have hd := hfk.2.2.2.2
      simp only at c0 c1 c2 hb hd
      have ga := Lib.hid (Gr.alloc hg (.cells #[.int .i64 f, .int .i64 m, .string ⟨d.toArray⟩] 48))
      have bx := Lib.hid (Blk.new wr 48 #[.int .i64 f, .int .i64 m, .string ⟨d.toArray⟩])
      clear hg hfk
      cases hr : right ⟨f, m, d⟩
      · rw [hr] at hro hb
        replace hb := Lib.hid hb
        replace hr := Lib.hid hr
        go_wp2_with fail
        go_at_call 43
        refine (hro.out _).mono ?_
        rintro e w1 ⟨rfl, hg1⟩
        have g1 := Lib.hid (Gr.trans ga.out hg1)
        clear hro hg1 ga bx
        go_wp2
        go_roundw
        case rel => exact ⟨k + 1, by omega, by go_num, by rw [hb.out]; simp, g1.out⟩
        case measure => simp [intOf]; omega
      · rw [hr] at hro hb
        replace hb := Lib.hid hb
        replace hr := Lib.hid hr
        go_wp2_with fail
        go_at_call 43
        refine (hro.out _).mono ?_
        rintro e w1 ⟨rfl, hg1⟩
        have g1 := Lib.hid (Gr.trans ga.out hg1)
        have b1 := blk_more bx.out hg1
        have x2 := b1.cell 2
        clear hro hg1 ga bx b1
        go_wp2
        go_roundw
        case rel => exact ⟨k + 1, by omega, by go_num, by rw [hb.out]; simp, g1.out⟩
        case measure => simp [intOf]; omega
    · obtain rfl : k = l.length := by omega
      go_wp2
      go_ret
      exact ⟨by rw [List.take_length]; rfl, hg⟩
end Tk
end Go.Proofs.Ytalkmkplmbmnkaa
namespace Go.Proofs.Ytalkmkplmbmnkaa
open Go Go.RowKit W
namespace Tk
theorem own_add (g n : Nat) : (⟨g, 0, none⟩ : Addr).add n = ⟨g, n, none⟩ := by unfold Addr.add; split <;> simp_all
theorem run_idx3 (w : World) (g n c k : Nat) (hk : k < n) : (Instr.indexAt 26 (.slice (some ⟨g, 0, none⟩) n c) (.int .i64 (k : Int))).run Try.prog w = .ok (.pointer (some ⟨g, k * 3, none⟩)) w := by
  have := run_idxR (P := Try.prog) w Try.underlying26 (size := 3) (by kernel_rfl) ⟨g, 0, none⟩ n c k hk
  rwa [own_add] at this
theorem run_ld3 (w : World) (g k : Nat) (t : Tok) (h0 : w.cell? ⟨g, k, none⟩ = some (.int .i64 t.f)) (h1 : w.cell? ⟨g, k + 1, none⟩ = some (.int .i64 t.m)) (h2 : w.cell? ⟨g, k + 2, none⟩ = some (.string ⟨t.d.toArray⟩)) :
    (Instr.loadAt 48 (.pointer (some ⟨g, k, none⟩))).run Try.prog w = .ok (tokV t) w := by
  simp [Instr.loadAt, go_sem, h0, h1, h2]
theorem ot_last {E : TypeId} {w : World} {base g c : Nat} {o : List Tok} {a : Tok} (h : OT E w base (.slice (some ⟨g, 0, none⟩) (o.length + 1) c) (o ++ [a])) :
    (w.cell? ⟨g, o.length * 3, none⟩ = some (.int .i64 a.f) ∧ w.cell? ⟨g, o.length * 3 + 1, none⟩ = some (.int .i64 a.m) ∧ w.cell? ⟨g, o.length * 3 + 2, none⟩ = some (.string ⟨a.d.toArray⟩)) ∧
    base ≤ g ∧ g < w.heap.size ∧ ∀ j, w.frozen? ⟨g, j, none⟩ = false := by
  have hl : (o ++ [a]).length = o.length + 1 := by simp
  unfold OT OR at h
  rw [hl] at h
  have e : ∀ j u, (tc a)[j]? = some u → (tcs (o ++ [a]))[o.length * 3 + j]? = some u := by
    intro j u hu
    rw [tcs_append, tcs_one, ← tcs_len, List.getElem?_append_right (by omega), Nat.add_sub_cancel_left]
    exact hu
  have hc := World.ownsRow.cells h (g := g) rfl
  have hx : ∀ j u, (tc a)[j]? = some u → w.cell? ⟨g, o.length * 3 + j, none⟩ = some u := by
    intro j u hu
    have := hc _ u (e j u hu)
    rwa [own_add] at this
  have hlt := World.ownsRow.lt h g rfl
  exact ⟨⟨hx 0 _ rfl, hx 1 _ rfl, hx 2 _ rfl⟩, hlt.1, hlt.2, fun j => World.ownsRow.frozenAt h j⟩
theorem stored7 (ρ : Operand → Value) (w : World) (B : Nat) (z : Tok) {x y : Tmp} (h1 : isNew B 48 #[.int .i64 0, .int .i64 0, .string ⟨#[]⟩] (ρ (.tmp x)) w) (h2 : eqv (tokV z) (ρ (.tmp y)) w) {o : Oper} (ho : o.op = .store 48 (.tmp x) (.tmp y)) : ∃ w', (execOp ρ o).run Try.prog w = .ok .skip w' := by
  obtain ⟨g, hv, _, hb⟩ := h1
  have h2 : ρ (.tmp y) = tokV z := h2
  unfold execOp
  simp only [ho, hv, h2]
  have := run_storeVar_row (P := Try.prog) w g 48 48 _ #[.int .i64 z.f, .int .i64 z.m, .string ⟨z.d.toArray⟩] hb (tokInfo _ _ _) rfl (by simp [Value.oneCell'])
  refine ⟨w.setRow g #[.int .i64 z.f, .int .i64 z.m, .string ⟨z.d.toArray⟩], ?_⟩
  simp only [Instr.storeAt, Instr.sureAddr, Sem.run_bind, Sem.run_pure, Result.andThen_ok, tokV, this]
def JR (w wr : World) (J : List Tok) (v : Value) : Prop := ∃ A c, v = .slice A J.length c ∧ OT 48 wr w.heap.size (.slice A J.length c) J
theorem fold_snoc (l : List Tok) (k : Nat) (h : k < l.length) : (l.take (k + 1)).foldl step [] = step ((l.take k).foldl step []) l[k] := by
  rw [List.take_succ_eq_append_getElem h, List.foldl_append]
  rfl
theorem fold_len (l : List Tok) : ∀ out, (l.foldl step out).length ≤ out.length + l.length := by
  induction l with
  | nil => intro out; simp
  | cons t l ih =>
    intro out
    have h1 : (step out t).length ≤ out.length + 1 := by
      cases ht : right t
      · rw [step_bad ht]; omega
      · rw [step_good ht]
        rcases snoc_or out with rfl | ⟨o, a, rfl⟩
        · rw [push_nil]; simp
        · rw [push_last]
          cases two a t <;> simp
    have := ih (step out t)
    rw [List.foldl_cons, List.length_cons]
    omega
set_option maxRecDepth 100000 in
set_option maxHeartbeats 8000000 in
theorem join_any (A : Option Addr) (c : Nat) (l : List Tok) (w : World) (hl : TR w w.heap.size A l) (hf : Fits l) (hk40 : l.length ≤ 1000000) :
    Calls Try.prog 42 #[.slice A l.length c] w fun e w' => JR w w' (join l) (match e with | .returned v => v | _ => .bool false) ∧ (∃ v, e = .returned v) ∧ Gr w w' := by
  have hl' := Lib.hid hl
  have hf' := Lib.hid hf.2
  clear hl hf
  go_enter Try.func42, Try.ntmps42
  go_wp2
  go_loopw [3, 5, 6, 7, 8, 11] (fun out _ _ _ _ i wr => ∃ k : Nat, k ≤ l.length ∧ i = .int .i64 (k : Int) ∧ JR w wr ((l.take k).foldl step []) out ∧ Gr w wr) (fun _ _ _ _ _ i _ => l.length - (intOf i).toNat)
  case atStart => exact ⟨0, by omega, rfl, ⟨none, 0, rfl, OT.nil_ _ _ _⟩, Gr.refl w⟩
  case round =>
    obtain ⟨k, hk, rfl, ⟨A0, c0, rfl, ho⟩, hg⟩ := hrel
    by_cases h : k < l.length
    · obtain ⟨ad, hA, hlt, e0, e1, e2⟩ := (hl'.out.below hg).at_ h
      subst hA
      have hs := Lib.hid (fold_snoc l k h)
      have hfl := fold_len (l.take k) []
      rw [List.length_take, List.length_nil] at hfl
      have hfk := hf'.out l[k] (List.getElem_mem h)
      have hall := fold_all (l.take k) [] (by simp)
      generalize (l.take k).foldl step [] = J at *
      generalize l[k] = t at *
      have hJ : J.length ≤ 1000000 := by omega
      clear hfl
      have hro := Lib.hid (fun w => right_any t w hfk)
      have hd := hfk.2.2.2.2
      have ga := Lib.hid (Gr.alloc hg (.cells #[.int .i64 t.f, .int .i64 t.m, .string ⟨t.d.toArray⟩] 48))
      have oa := Lib.hid (ho.alloc (.cells #[.int .i64 t.f, .int .i64 t.m, .string ⟨t.d.toArray⟩] 48))
      have bx := Lib.hid (Blk.new wr 48 #[.int .i64 t.f, .int .i64 t.m, .string ⟨t.d.toArray⟩])
      have hwr := hg.size
      clear hg hfk ho
      cases hr : right t
      · rw [hr] at hro
        replace hr := Lib.hid hr
        clear hall bx
        go_wp2_with fail
        go_at_call 43
        refine (hro.out _).mono ?_
        rintro e w1 ⟨rfl, hg1⟩
        have g1 := Lib.hid (Gr.trans ga.out hg1)
        have o1 := Lib.hid (oa.out.below hg1)
        clear hro hg1 ga oa
        go_wp2
        go_roundw
        case rel => exact ⟨k + 1, by omega, by go_num, by rw [hs.out, step_bad hr.out]; exact ⟨_, _, rfl, o1.out⟩, g1.out⟩
        case measure => simp [intOf]; omega
      · rw [hr] at hro
        rw [step_good hr] at hs
        have hrt := Lib.hid hr
        clear hr
        go_wp2_with fail
        go_at_call 43
        refine (hro.out _).mono ?_
        rintro e w1 ⟨rfl, hg1⟩
        have g1 := Lib.hid (Gr.trans ga.out hg1)
        have o1 := Lib.hid (oa.out.below hg1)
        have b1 := Lib.hid (blk_more bx.out hg1)
        clear hro hg1 ga oa bx
        rcases snoc_or J with rfl | ⟨o, a, rfl⟩
        · have x := b1.out
          have x0 := x.cell 0
          have x1 := x.cell 1
          have x2 := x.cell 2
          clear x b1
          have oL := Lib.hid (o1.out.alloc (.cells #[.int .i64 t.f, .int .i64 t.m, .string ⟨t.d.toArray⟩] 48))
          have nL := Lib.hid (TR.new1 w1 48 t)
          have gL := Lib.hid (Gr.alloc g1.out (.cells #[.int .i64 t.f, .int .i64 t.m, .string ⟨t.d.toArray⟩] 48))
          have hWw := Below.size g1.out
          go_wp2_with (first
            | (refine wpList_append_rows (v := .slice A0 0 c0) rfl (.tmp 38) (.tmp 40) 26 rfl Try.underlying26 tokRow rfl (by exact oL.out) (w1.heap.size + 1) _ 1 1 (tcs [t]) rfl (by exact nL.out) (tcs_one_cell _) (by unfold maxLen; simp <;> omega) (by simp <;> omega) (by simp <;> omega) (tcs ([] ++ [t])) (tcs_append _ _) ([] ++ [t]).length (by simp) ?_; intro A9 c9 w9 o9 b9)
            | (refine step_append_rows (v := .slice A0 0 c0) rfl (.tmp 38) (.tmp 40) 26 rfl Try.underlying26 tokRow rfl (by exact oL.out) (w1.heap.size + 1) _ 1 1 (tcs [t]) rfl (by exact nL.out) (tcs_one_cell _) (by unfold maxLen; simp <;> omega) (by simp <;> omega) (by simp <;> omega) (tcs ([] ++ [t])) (tcs_append _ _) ([] ++ [t]).length (by simp) ?_; intro A9 c9 w9 o9 b9))
          have g9 : Gr w w9 := Below.trans gL.out b9
          clear oL nL gL b9
          go_wp2
          go_roundw
          case rel => exact ⟨k + 1, by omega, by go_num, by rw [hs.out]; exact ⟨A9, c9, by first | rfl | simp, by first | exact o9 | (unfold OT; simpa using o9)⟩, g9⟩
          case measure => simp [intOf]; omega
        · have hgf : ∃ g, A0 = some ⟨g, 0, none⟩ := by
            rcases (show OR _ _ _ _ _ _ _ from o1.out).2 with ⟨hv, hn⟩ | ⟨g, cap, cur, hv, _⟩
            · simp at hn
            · injection hv with h1
              exact ⟨g, h1⟩
          obtain ⟨g, rfl⟩ := hgf
          have hol : (o ++ [a]).length = o.length + 1 := by simp
          have haR : right a = true := hall a (by simp)
          have o1' : OT 48 w1 w.heap.size (.slice (some ⟨g, 0, none⟩) (o.length + 1) c0) (o ++ [a]) := hol ▸ o1.out
          obtain ⟨⟨y0, y1, y2⟩, hgb, hgl, hfz⟩ := ot_last o1'
          have x := b1.out
          have x0 := x.cell 0
          have x1 := x.cell 1
          have x2 := x.cell 2
          have hbl := x.lt
          have hpu := Lib.hid (push_last o a t)
          clear x o1 hall
          replace hgf := hfz
          clear hfz
          replace haR := Lib.hid haR
          replace o1' := Lib.hid o1'
          replace y0 := Lib.hid y0
          replace y1 := Lib.hid y1
          replace y2 := Lib.hid y2
          replace hgf := Lib.hid hgf
          have hO : o.length < 1000000 := by rw [hol] at hJ; omega
          clear hol hJ
          cases htwo : two a t with
          | some z =>
            replace htwo := Lib.hid htwo
            go_wp2
            refine region_grow (by kernel_rfl) (by kernel_rfl) ?_
            refine GW.mv rfl trivial (.inl rfl) (kn0 (t := 3) (c := .slice (some ⟨g, 0, none⟩) (o.length + 1) c0) (by kernel_rfl) rfl) (eqv_lasts _) ?_
            refine GW.mv rfl trivial (.inl rfl) (kn0 (t := 6) (c := .int .i64 ((o.length : Int) + 1)) (by kernel_rfl) rfl) (eqv_lasts _) ?_
            refine GW.bin (.int .i64 (o.length : Int)) rfl trivial rfl (kn (t := 24) (j := 1) (by kernel_rfl)) knc (fun w' => by simp [go_sem]; exact IntWalk.i64_in _ (by omega)) ?_
            refine GW.p2 (.pointer (some ⟨g, o.length * 3, none⟩)) rfl trivial (kn (t := 23) (j := 0) (by kernel_rfl)) (kn (t := 25) (j := 2) (by kernel_rfl)) (fun ρ w' h1 h2 hg => by show ((Instr.indexAt 26 (ρ (.tmp 23)) (ρ (.tmp 25)) >>= fun v => pure (Next.value v)) : Sem Next).run Try.prog w' = _; rw [h1, h2, Sem.run_bind, run_idx3 w' g (o.length + 1) c0 o.length (by omega)]; rfl) ?_
            refine GW.p1 (tokV a) rfl trivial (kn (t := 26) (j := 3) (by kernel_rfl)) (fun ρ w' hρ hg => by show ((Instr.loadAt 48 (ρ (.tmp 26)) >>= fun v => pure (Next.value v)) : Sem Next).run Try.prog w' = _; rw [hρ, Sem.run_bind, run_ld3 w' g (o.length * 3) a ((hg.cell (p := ⟨g, _, none⟩) hgl).trans y0.out) ((hg.cell (p := ⟨g, _, none⟩) hgl).trans y1.out) ((hg.cell (p := ⟨g, _, none⟩) hgl).trans y2.out)]; rfl) ?_
            refine GW.p1 (tokV t) rfl trivial (kn0 (t := 5) (c := .pointer (some ⟨wr.heap.size, 0, none⟩)) (by kernel_rfl) rfl) (fun ρ w' hρ hg => by show ((Instr.loadAt 48 (ρ (.tmp 5)) >>= fun v => pure (Next.value v)) : Sem Next).run Try.prog w' = _; rw [hρ, Sem.run_bind, run_ld3 w' wr.heap.size 0 t ((hg.cell (p := ⟨wr.heap.size, _, none⟩) hbl).trans x0) ((hg.cell (p := ⟨wr.heap.size, _, none⟩) hbl).trans x1) ((hg.cell (p := ⟨wr.heap.size, _, none⟩) hbl).trans x2)]; rfl) ?_
            refine GW.call2 (eqv (.tuple #[tokV z, .bool true])) rfl trivial rfl Try.func54 (by kernel_rfl) (by kernel_rfl) (eqv_lasts _) (kn (t := 27) (j := 4) (by kernel_rfl)) (kn (t := 28) (j := 5) (by kernel_rfl)) (fun v u w' hg hv hu => ?_) ?_
            · obtain rfl : v = _ := hv
              obtain rfl : u = _ := hu
              refine (put_any a t w' haR.out hrt.out).mono ?_
              rintro e w2 ⟨rfl, hg2⟩
              exact ⟨_, rfl, by rw [htwo.out]; rfl, hg2⟩
            refine GW.mv rfl trivial (.inl rfl) (kn (t := 29) (j := 6) (by kernel_rfl)) (eqv_lasts _) ?_
            refine GW.p1 (tokV z) rfl trivial (kn (t := 22) (j := 7) (by kernel_rfl)) (fun ρ w' hρ hg => by simp [execOp, hρ, go_sem]) ?_
            refine GW.p1 (.bool true) rfl trivial (kn (t := 22) (j := 7) (by kernel_rfl)) (fun ρ w' hρ hg => by simp [execOp, hρ, go_sem]) ?_
            refine GW.alloc #[.int .i64 0, .int .i64 0, .string ⟨#[]⟩] rfl trivial rfl (fun w => by kernel_rfl) ?_
            refine GW.tailLate 9 22 31 (.tuple #[tokV z, .bool true]) (.bool true) _ _ 7 10 8 7 30 _ _ _ _ (m := 11) (by omega) (by kernel_rfl) (by kernel_rfl) rfl rfl rfl (fun ρ w hρ => by simp [execOp, hρ, go_sem]) (fun _ => rfl) rfl rfl (by omega) (by omega) (fun v w h => h) rfl rfl rfl rfl rfl rfl (by omega) (by omega) rfl rfl (by omega) (by omega) (fun ρ w hg h1 h2 => stored7 ρ w _ z h1 h2 rfl) (fun w' hg => ?_)
            intro v0 _ v1 _ v2 _ v3 _ v4 _ v5 _ v6 _ v7 _ v8 h8 v9 h9 v10 h10
            obtain rfl : v8 = (tokV z) := h8
            obtain rfl : v9 = (.bool true) := h9
            simp only [GFin, List.take_succ_cons, List.take_zero, List.drop_succ_cons, List.drop_zero, Act.put, List.setIfInBounds_toArray, List.set_cons_succ, List.set_cons_zero]
            obtain ⟨g7, rfl, hg7, n7⟩ := h10
            have hszw := Below.size hg
            have hgh := Lib.hid hg
            replace n7 := Lib.hid n7
            clear y0 y1 y2 hgf hg x0 x1 x2
            go_wp2_with (first
              | (refine wpList_store_blk rfl 48 _ _ rfl g7 #[.int .i64 z.f, .int .i64 z.m, .string ⟨z.d.toArray⟩] rfl rfl 48 #[.int .i64 0, .int .i64 0, .string ⟨#[]⟩] n7.out (tokInfo _ _ _) rfl (by simp [Value.oneCell']) ?_; intro w4 n8 kn hs4; have Gw4 : Gr w1 w4 := Below.trans hgh.out (Below.mono (Kb.below kn (Nat.le_of_lt n7.out.lt)) hg7); have o4 := o1'.out.below Gw4; have b4 := blk_more b1.out Gw4; have G4 := Lib.hid (Gr.trans g1.out Gw4); have x0 := n8.cell 0; have x1 := n8.cell 1; have x2 := n8.cell 2; obtain ⟨⟨d0, d1, d2⟩, _, hgl4, hz4⟩ := ot_last o4; have f0 := hz4 (o.length * 3); have d1' : (w4.setCell ⟨g, o.length * 3, none⟩ (.int .i64 z.f)).cell? ⟨g, o.length * 3 + 1, none⟩ = some (.int .i64 a.m) := (World.cell?_setCell_other w4 _ _ _ (by intro he; injection he <;> omega)).trans d1; have f1 : (w4.setCell ⟨g, o.length * 3, none⟩ (.int .i64 z.f)).frozen? ⟨g, o.length * 3 + 1, none⟩ = false := (by rw [World.frozen?_setCell]; exact hz4 _); have d2' : ((w4.setCell ⟨g, o.length * 3, none⟩ (.int .i64 z.f)).setCell ⟨g, o.length * 3 + 1, none⟩ (.int .i64 z.m)).cell? ⟨g, o.length * 3 + 2, none⟩ = some (.string ⟨a.d.toArray⟩) := (World.cell?_setCell_other _ _ _ _ (by intro he; injection he <;> omega)).trans ((World.cell?_setCell_other w4 _ _ _ (by intro he; injection he <;> omega)).trans d2); have f2 : ((w4.setCell ⟨g, o.length * 3, none⟩ (.int .i64 z.f)).setCell ⟨g, o.length * 3 + 1, none⟩ (.int .i64 z.m)).frozen? ⟨g, o.length * 3 + 2, none⟩ = false := (by rw [World.frozen?_setCell, World.frozen?_setCell]; exact hz4 _); have oS := Lib.hid (OT.set3 (b := z) o4); have gS := Lib.hid ((((G4.out.setCell (p := ⟨g, o.length * 3, none⟩) hgb (.int .i64 z.f)).setCell (p := ⟨g, o.length * 3 + 1, none⟩) hgb (.int .i64 z.m)).setCell (p := ⟨g, o.length * 3 + 2, none⟩) hgb (.string ⟨z.d.toArray⟩))); clear d1 d2 hz4 o4 b4 G4 Gw4 kn hs4 n8 n7 b1 g1 o1'))
            go_roundw
            case rel => exact ⟨k + 1, by omega, by go_num, by rw [hs.out, hpu.out, htwo.out]; exact ⟨some ⟨g, 0, none⟩, c0, by simp, by simpa using oS.out⟩, gS.out⟩
            case measure => simp [intOf]; omega
          | none =>
            replace htwo := Lib.hid htwo
            go_wp2
            refine region_grow (by kernel_rfl) (by kernel_rfl) ?_
            refine GW.mv rfl trivial (.inl rfl) (kn0 (t := 3) (c := .slice (some ⟨g, 0, none⟩) (o.length + 1) c0) (by kernel_rfl) rfl) (eqv_lasts _) ?_
            refine GW.mv rfl trivial (.inl rfl) (kn0 (t := 6) (c := .int .i64 ((o.length : Int) + 1)) (by kernel_rfl) rfl) (eqv_lasts _) ?_
            refine GW.bin (.int .i64 (o.length : Int)) rfl trivial rfl (kn (t := 24) (j := 1) (by kernel_rfl)) knc (fun w' => by simp [go_sem]; exact IntWalk.i64_in _ (by omega)) ?_
            refine GW.p2 (.pointer (some ⟨g, o.length * 3, none⟩)) rfl trivial (kn (t := 23) (j := 0) (by kernel_rfl)) (kn (t := 25) (j := 2) (by kernel_rfl)) (fun ρ w' h1 h2 hg => by show ((Instr.indexAt 26 (ρ (.tmp 23)) (ρ (.tmp 25)) >>= fun v => pure (Next.value v)) : Sem Next).run Try.prog w' = _; rw [h1, h2, Sem.run_bind, run_idx3 w' g (o.length + 1) c0 o.length (by omega)]; rfl) ?_
            refine GW.p1 (tokV a) rfl trivial (kn (t := 26) (j := 3) (by kernel_rfl)) (fun ρ w' hρ hg => by show ((Instr.loadAt 48 (ρ (.tmp 26)) >>= fun v => pure (Next.value v)) : Sem Next).run Try.prog w' = _; rw [hρ, Sem.run_bind, run_ld3 w' g (o.length * 3) a ((hg.cell (p := ⟨g, _, none⟩) hgl).trans y0.out) ((hg.cell (p := ⟨g, _, none⟩) hgl).trans y1.out) ((hg.cell (p := ⟨g, _, none⟩) hgl).trans y2.out)]; rfl) ?_
            refine GW.p1 (tokV t) rfl trivial (kn0 (t := 5) (c := .pointer (some ⟨wr.heap.size, 0, none⟩)) (by kernel_rfl) rfl) (fun ρ w' hρ hg => by show ((Instr.loadAt 48 (ρ (.tmp 5)) >>= fun v => pure (Next.value v)) : Sem Next).run Try.prog w' = _; rw [hρ, Sem.run_bind, run_ld3 w' wr.heap.size 0 t ((hg.cell (p := ⟨wr.heap.size, _, none⟩) hbl).trans x0) ((hg.cell (p := ⟨wr.heap.size, _, none⟩) hbl).trans x1) ((hg.cell (p := ⟨wr.heap.size, _, none⟩) hbl).trans x2)]; rfl) ?_
            refine GW.call2 (eqv (.tuple #[tokV ⟨0, 0, []⟩, .bool false])) rfl trivial rfl Try.func54 (by kernel_rfl) (by kernel_rfl) (eqv_lasts _) (kn (t := 27) (j := 4) (by kernel_rfl)) (kn (t := 28) (j := 5) (by kernel_rfl)) (fun v u w' hg hv hu => ?_) ?_
            · obtain rfl : v = _ := hv
              obtain rfl : u = _ := hu
              refine (put_any a t w' haR.out hrt.out).mono ?_
              rintro e w2 ⟨rfl, hg2⟩
              exact ⟨_, rfl, by rw [htwo.out]; rfl, hg2⟩
            refine GW.mv rfl trivial (.inl rfl) (kn (t := 29) (j := 6) (by kernel_rfl)) (eqv_lasts _) ?_
            refine GW.p1 (tokV ⟨0, 0, []⟩) rfl trivial (kn (t := 22) (j := 7) (by kernel_rfl)) (fun ρ w' hρ hg => by simp [execOp, hρ, go_sem]) ?_
            refine GW.p1 (.bool false) rfl trivial (kn (t := 22) (j := 7) (by kernel_rfl)) (fun ρ w' hρ hg => by simp [execOp, hρ, go_sem]) ?_
            refine GW.alloc #[.int .i64 0, .int .i64 0, .string ⟨#[]⟩] rfl trivial rfl (fun w => by kernel_rfl) ?_
            refine GW.tailLate 9 22 31 (.tuple #[tokV ⟨0, 0, []⟩, .bool false]) (.bool false) _ _ 7 10 8 7 30 _ _ _ _ (m := 11) (by omega) (by kernel_rfl) (by kernel_rfl) rfl rfl rfl (fun ρ w hρ => by simp [execOp, hρ, go_sem]) (fun _ => rfl) rfl rfl (by omega) (by omega) (fun v w h => h) rfl rfl rfl rfl rfl rfl (by omega) (by omega) rfl rfl (by omega) (by omega) (fun ρ w hg h1 h2 => stored7 ρ w _ ⟨0, 0, []⟩ h1 h2 rfl) (fun w' hg => ?_)
            intro v0 _ v1 _ v2 _ v3 _ v4 _ v5 _ v6 _ v7 _ v8 h8 v9 h9 v10 h10
            obtain rfl : v8 = (tokV ⟨0, 0, []⟩) := h8
            obtain rfl : v9 = (.bool false) := h9
            simp only [GFin, List.take_succ_cons, List.take_zero, List.drop_succ_cons, List.drop_zero, Act.put, List.setIfInBounds_toArray, List.set_cons_succ, List.set_cons_zero]
            obtain ⟨g7, rfl, hg7, n7⟩ := h10
            have hszw := Below.size hg
            have hgh := Lib.hid hg
            replace n7 := Lib.hid n7
            clear y0 y1 y2 hgf hg x0 x1 x2
            have hpn := Lib.hid (show push (o ++ [a]) t = o ++ [a] ++ [t] by rw [hpu.out, htwo.out])
            go_wp2_with (first
              | (refine wpList_store_blk rfl 48 _ _ rfl g7 #[.int .i64 0, .int .i64 0, .string ⟨#[]⟩] rfl rfl 48 #[.int .i64 0, .int .i64 0, .string ⟨#[]⟩] n7.out (tokInfo _ _ _) rfl (by simp [Value.oneCell']) ?_; intro w4 n8 kn hs4; have Gw4 : Gr w1 w4 := Below.trans hgh.out (Below.mono (Kb.below kn (Nat.le_of_lt n7.out.lt)) hg7); have o4 := o1'.out.below Gw4; have b4 := blk_more b1.out Gw4; have G4 := Lib.hid (Gr.trans g1.out Gw4); have x0 := b4.cell 0; have x1 := b4.cell 1; have x2 := b4.cell 2; have oL := Lib.hid (o4.alloc (.cells #[.int .i64 t.f, .int .i64 t.m, .string ⟨t.d.toArray⟩] 48)); have nL := Lib.hid (TR.new1 w4 48 t); have gL := Lib.hid (Gr.alloc G4.out (.cells #[.int .i64 t.f, .int .i64 t.m, .string ⟨t.d.toArray⟩] 48)); have hWw := Below.size G4.out; clear o4 b4 G4 Gw4 kn hs4 n8 n7 b1 g1 o1')
              | (refine wpList_append_rows (v := .slice (some ⟨g, 0, none⟩) (o.length + 1) c0) rfl (.tmp 38) (.tmp 40) 26 rfl Try.underlying26 tokRow rfl (by exact oL.out) (w4.heap.size + 1) _ 1 1 (tcs [t]) rfl (by exact nL.out) (tcs_one_cell _) (by unfold maxLen; simp <;> omega) (by simp <;> omega) (by simp <;> omega) (tcs ((o ++ [a]) ++ [t])) (tcs_append _ _) ((o ++ [a]) ++ [t]).length (by simp) ?_; intro A9 c9 w9 o9 b9)
              | (refine step_append_rows (v := .slice (some ⟨g, 0, none⟩) (o.length + 1) c0) rfl (.tmp 38) (.tmp 40) 26 rfl Try.underlying26 tokRow rfl (by exact oL.out) (w4.heap.size + 1) _ 1 1 (tcs [t]) rfl (by exact nL.out) (tcs_one_cell _) (by unfold maxLen; simp <;> omega) (by simp <;> omega) (by simp <;> omega) (tcs ((o ++ [a]) ++ [t])) (tcs_append _ _) ((o ++ [a]) ++ [t]).length (by simp) ?_; intro A9 c9 w9 o9 b9))
            rw [hpn.out] at hs
            have g9 : Gr w w9 := Below.trans gL.out b9
            clear oL nL gL b9
            go_wp2
            go_roundw
            case rel => exact ⟨k + 1, by omega, by go_num, by rw [hs.out]; exact ⟨A9, c9, by first | rfl | simp, by first | exact o9 | (unfold OT; simpa using o9)⟩, g9⟩
            case measure => simp [intOf]; omega
    · obtain rfl : k = l.length := by omega
      rw [List.take_length] at ho
      replace ho := Lib.hid ho
      rw [List.take_length]
      go_wp2
      go_ret
      exact ⟨⟨_, _, rfl, ho.out⟩, ⟨_, rfl⟩, hg⟩
end Tk
end Go.Proofs.Ytalkmkplmbmnkaa
