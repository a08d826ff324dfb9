/- The walk of LinkPlays: one call and what is told of it. No condition but sizes. -/
import Derived.Test.YtpkbdodclkgjpaaLnkInv
import Derived.BigQuiet
set_option linter.unusedVariables false
set_option linter.unusedSimpArgs false
namespace Go.Proofs.Ytpkbdodclkgjpaa
open Go Go.RowKit Go.Shelf W
namespace Ln

theorem acInfo (a b c d e f : Value) : (Try.prog.info? 31).map (·.size) = some (#[a, b, c, d, e, f] : Array Value).size := by kernel_rfl
set_option maxRecDepth 100000 in
set_option maxHeartbeats 8000000 in
theorem plays_walk (A : Option Addr) (c : Nat) (l : List Ac) (w : World) (hc : l.length ≤ c) (hm : c ≤ maxLen) (hr : AR w w.heap.size A l) (hx : ∀ t ∈ l, t.b.length ≤ maxLen ∧ -9223372036854775808 ≤ t.t ∧ t.t ≤ 9223372036854775807) :
    Calls Try.prog 4 #[.slice A l.length c] w (Ret (eqv (.bool true)) w) := by
  have hfe := Lib.hid (few_any A c l w hr (fun t ht => by have := (hx t ht).1; unfold maxLen at this; omega) (by unfold maxLen at hm; omega))
  have hr' := Lib.hid hr
  have hx' := Lib.hid hx
  clear hr hm hx
  by_cases hq : fewB l = true
  · obtain ⟨h60, hb100⟩ := few_fits hq
    replace hb100 := Lib.hid hb100
    rw [hq] at hfe
    clear hq
    go_enter Try.func4, Try.ntmps4
    go_wp2_with fail
    refine hfe.out.mono ?_
    rintro e W1 ⟨rfl, g1⟩
    replace g1 := Lib.hid g1
    clear hfe
    go_wp2_with fail
    refine (new_any W1).mono ?_
    rintro e W2 ⟨rfl, rfl⟩
    have k2 := Lib.hid (lk_new W1)
    have g2 := Lib.hid (g1.out.trans ((Gr.refl W1).alloc (.cells lkZ 54)))
    generalize hW2 : W1.alloc (.cells lkZ 54) = W2 at k2 g2 ⊢
    have l2 : W1.heap.size < W2.heap.size := by rw [← hW2]; simp
    have lgw : w.heap.size ≤ W1.heap.size := g1.out.size
    clear hW2
    generalize W1.heap.size = g at k2 l2 lgw ⊢
    clear g1 W1
    have hbd : ∀ w : World, (Instr.build 40 #[]).run Try.prog w = .ok (.agg stZ) w := fun _ => by kernel_rfl
    go_wp2
    have T0 := Lib.hid (show Two (W2.alloc (.cells stZ 40)) g W2.heap.size 0 ⟨[], 0, 0⟩ ⟨[], 0, 0⟩ from ⟨k2.out.gr ((Gr.refl W2).alloc _), ⟨none, none, 0, 0, Blk.new W2 _ _, ⟨none, 0, rfl, Nat.le_refl _, by unfold maxLen; omega, fun h => absurd h (by simp)⟩, ⟨none, 0, rfl, Nat.le_refl _, by unfold maxLen; omega, fun h => absurd h (by simp)⟩⟩, okj_zero, okj_zero⟩)
    have G0 := Lib.hid (g2.out.trans ((Gr.refl W2).alloc (.cells stZ 40)))
    have lg : w.heap.size ≤ W2.heap.size := g2.out.size
    generalize W2.heap.size = gs at T0 lg l2 ⊢
    generalize W2.alloc (.cells stZ 40) = W3 at T0 G0 ⊢
    clear k2 g2 hbd W2
    go_loopw [5, 6, 7, 8, 9, 10, 11] (fun i _ _ _ _ _ _ wr => ∃ j : Nat, j ≤ l.length ∧ i = .int .i64 (j : Int) ∧ Hid (Gr w wr) ∧ Hid (∃ a b, Two wr g gs j a b)) (fun i _ _ _ _ _ _ _ => l.length - (intOf i).toNat)
    case atStart => exact ⟨0, by omega, rfl, G0, Lib.hid ⟨_, _, T0.out⟩⟩
    case round =>
      obtain ⟨j, hj, rfl, gr, tw⟩ := hrel
      obtain ⟨a, b, tw⟩ := tw.out
      clear T0 G0
      by_cases h : j < l.length
      · obtain ⟨ad, hA, hlt, e0, e1, e2, e3, e4, e5⟩ := (hr'.out.below gr.out).at_ h
        subst hA
        have hbj := hb100.out l[j] (List.getElem_mem h)
        have hxj := hx'.out l[j] (List.getElem_mem h)
        have i1 : (0 : Int) ≤ (j : Int) := by omega
        have i2 : (j : Int) < (l.length : Int) := by omega
        generalize l[j] = t at *
        obtain ⟨tk, tw_, ti, tt, tm, tb⟩ := t
        simp only at e0 e1 e2 e3 e4 e5 hbj hxj
        obtain ⟨_, ht1, ht2⟩ := hxj
        replace tw := Lib.hid tw
        by_cases hk0 : tk < 0
        · have hd1 : decide (tk < 0) = true := by simp [hk0]
          have hdp := Lib.hid (doP_kind a b ⟨tk, tw_, ti, tt, tm, tb⟩ (.inl hk0))
          clear hk0
          go_wp2_with fail
          have Wa := (Gr.refl wr).alloc (.cells #[.int .i64 4, .int .i64 tw_, .int .i64 ti, .int .i64 tt, .int .u32 (n32 tm), str tb] 31)
          have T8 := tw.out.gr Wa
          obtain ⟨A0, A1, c0, c1, bs, ts0, ts1⟩ := T8.st
          have bx := Blk.new wr 31 #[.int .i64 4, .int .i64 tw_, .int .i64 ti, .int .i64 tt, .int .u32 (n32 tm), str tb]
          have G8 := gr.out.trans Wa
          generalize wr.alloc (.cells #[.int .i64 4, .int .i64 tw_, .int .i64 ti, .int .i64 tt, .int .u32 (n32 tm), str tb] 31) = W8 at T8 bs ts0 ts1 bx G8 ⊢
          refine (do_any T8.lk (T8.oa.ok (by omega)) (T8.ob.ok (by omega)) ⟨4, tw_, ti, tt, tm, tb⟩ hbj ht1 ht2).mono ?_
          rintro e W4 ⟨rfl, q1, q2, q3⟩
          have hrd := Lib.hid (rdo_any (w := W4) ⟨A0, A1, c0, c1, rfl, ts0.kt q2, ts1.kt q2⟩ (T8.oa.ok (by omega)) (T8.ob.ok (by omega)) ⟨4, tw_, ti, tt, tm, tb⟩ ht1 ht2)
          have hok := Lib.hid (doP_okj T8.oa T8.ob ⟨4, tw_, ti, tt, tm, tb⟩ hbj)
          obtain ⟨P, hP⟩ : ∃ P, doP a b ⟨4, tw_, ti, tt, tm, tb⟩ = P := ⟨_, rfl⟩
          rw [hP] at hrd hok q1 ⊢
          replace hP := Lib.hid hP
          have b4 := Lib.hid (q2.blk bs (by decide) (by decide))
          have x4 := Lib.hid (q2.blk bx (by decide) (by decide))
          have G4 := Lib.hid (show Gr w W4 from Below.trans G8 (Below.mono q3 lgw))
          replace q1 := Lib.hid q1
          clear T8 bs ts0 ts1 bx G8 q2 q3 Wa e0 e1 e2 e3 e4 e5 tw gr
          go_wp2_with (first
            | ((with_reducible refine wpList_isLoad 40 (.tmp 4) rfl ?_); refine wpList_load_row rfl 40 (.tmp 4) rfl gs rfl 40 _ (0, 0) _ b4.out Try.underlying40 rfl (stInfo _ _ _ _ _ _) ?_)
            | ((with_reducible refine wpList_isLoad 31 (.tmp 6) rfl ?_); refine wpList_load_row rfl 31 (.tmp 6) rfl wr.heap.size rfl 31 _ (0, 0) _ x4.out Try.underlying31 rfl (acInfo _ _ _ _ _ _) ?_)
            | fail)
          refine (by exact hrd.out : Calls Try.prog 11 #[.agg (stC (.slice A0 a.l.length c0) (.slice A1 b.l.length c1) a b), .agg #[.int .i64 4, .int .i64 tw_, .int .i64 ti, .int .i64 tt, .int .u32 (n32 tm), str tb]] W4 _).mono ?_
          rintro e W5 ⟨v5, rfl, ⟨A0', A1', c0', c1', rfl, s0, s1⟩, g5⟩
          have b5 := Lib.hid (blk_more b4.out g5)
          have k5 := Lib.hid (q1.out.gr g5)
          have G5 := Lib.hid (G4.out.trans g5)
          replace s0 := Lib.hid s0
          replace s1 := Lib.hid s1
          clear g5 b4 x4 G4 q1 hrd
          go_wp2_with (first
            | ((with_reducible refine wpList_isStore 40 (.tmp 4) (.tmp 50) rfl ?_); refine wpList_store_blk rfl 40 (.tmp 4) (.tmp 50) rfl gs _ rfl rfl 40 _ b5.out (stInfo _ _ _ _ _ _) rfl (by simp [Value.oneCell']) ?_; intro W6 n6 m6 z6; have T6 := Lib.hid (show Two W6 g gs (j + 1) P.1 P.2.1 from ⟨k5.out.off m6 b5.out (by decide) (by decide) (by decide), ⟨A0', A1', c0', c1', n6, s0.out.off m6 b5.out (by decide), s1.out.off m6 b5.out (by decide)⟩, hok.out.1, hok.out.2⟩); have G6 := Lib.hid (show Gr w W6 from Below.trans G5.out (Below.mono (Kb.below m6 (Nat.le_of_lt b5.out.lt)) lg)); replace n6 := Lib.hid n6; clear m6 z6 b5 k5 G5 s0 s1 hok)
            | fail)
          go_loopw [11] (fun k wq => ∃ m : Nat, m ≤ 2 ∧ k = .int .i64 (m : Int) ∧ Hid (Gr W6 wq)) (fun k _ => 2 - (intOf k).toNat)
          case atStart => exact ⟨0, by omega, rfl, Lib.hid (Gr.refl W6)⟩
          case round =>
            obtain ⟨m, hm, rfl, g7⟩ := hrel
            rcases (show m = 0 ∨ m = 1 ∨ m = 2 by omega) with rfl | rfl | rfl
            · have T7 := T6.out.gr g7.out
              obtain ⟨_, _, _, _, n7, _, _⟩ := T7.st
              have cl := n7.cell 0
              have cs := n7.cell (2 + 0)
              have cx := n7.cell (4 + 0)
              have hl := Lib.hid (fun n => (by exact len_k (k := 0) (by omega) (wr.drewN n) (T7.lk.gr (below_drewN (Below.refl _ _) n)) : Calls Try.prog 9 #[.pointer (some ⟨g, 0, none⟩), .int .i64 0] (wr.drewN n) fun e w' => e = .returned (.int .i64 (P.1.l.length : Int)) ∧ w' = wr.drewN n))
              have hs := Lib.hid (fun n => (by exact sent_k (k := 0) (by omega) (wr.drewN n) (T7.lk.gr (below_drewN (Below.refl _ _) n)) : Calls Try.prog 12 #[.pointer (some ⟨g, 0, none⟩), .int .i64 0] (wr.drewN n) fun e w' => e = .returned (.int .i64 (P.1.s : Int)) ∧ w' = wr.drewN n))
              have hxx := Lib.hid (fun n => (by exact lost_k (k := 0) (by omega) (wr.drewN n) (T7.lk.gr (below_drewN (Below.refl _ _) n)) : Calls Try.prog 13 #[.pointer (some ⟨g, 0, none⟩), .int .i64 0] (wr.drewN n) fun e w' => e = .returned (.int .i64 (P.1.x : Int)) ∧ w' = wr.drewN n))
              clear T7 n7
              go_wp2
              go_quiet (first
                | (go_at_call 9; exact Calls.quiet_of_same (hl.out _))
                | (go_at_call 12; exact Calls.quiet_of_same (hs.out _))
                | (go_at_call 13; exact Calls.quiet_of_same (hxx.out _)))
              go_wp2
              exact ⟨⟨0 + 1, by omega, rfl, Lib.hid (g7.out.trans (below_drewN (Below.refl _ _) _))⟩, by simp [intOf]⟩
            · have T7 := T6.out.gr g7.out
              obtain ⟨_, _, _, _, n7, _, _⟩ := T7.st
              have cl := n7.cell 1
              have cs := n7.cell (2 + 1)
              have cx := n7.cell (4 + 1)
              have hl := Lib.hid (fun n => (by exact len_k (k := 1) (by omega) (wr.drewN n) (T7.lk.gr (below_drewN (Below.refl _ _) n)) : Calls Try.prog 9 #[.pointer (some ⟨g, 0, none⟩), .int .i64 1] (wr.drewN n) fun e w' => e = .returned (.int .i64 (P.2.1.l.length : Int)) ∧ w' = wr.drewN n))
              have hs := Lib.hid (fun n => (by exact sent_k (k := 1) (by omega) (wr.drewN n) (T7.lk.gr (below_drewN (Below.refl _ _) n)) : Calls Try.prog 12 #[.pointer (some ⟨g, 0, none⟩), .int .i64 1] (wr.drewN n) fun e w' => e = .returned (.int .i64 (P.2.1.s : Int)) ∧ w' = wr.drewN n))
              have hxx := Lib.hid (fun n => (by exact lost_k (k := 1) (by omega) (wr.drewN n) (T7.lk.gr (below_drewN (Below.refl _ _) n)) : Calls Try.prog 13 #[.pointer (some ⟨g, 0, none⟩), .int .i64 1] (wr.drewN n) fun e w' => e = .returned (.int .i64 (P.2.1.x : Int)) ∧ w' = wr.drewN n))
              clear T7 n7
              go_wp2
              go_quiet (first
                | (go_at_call 9; exact Calls.quiet_of_same (hl.out _))
                | (go_at_call 12; exact Calls.quiet_of_same (hs.out _))
                | (go_at_call 13; exact Calls.quiet_of_same (hxx.out _)))
              go_wp2
              exact ⟨⟨1 + 1, by omega, rfl, Lib.hid (g7.out.trans (below_drewN (Below.refl _ _) _))⟩, by simp [intOf]⟩
            · have T7 := Lib.hid (T6.out.gr g7.out)
              have G7 := Lib.hid (G6.out.trans g7.out)
              clear T6 G6 n6
              go_wp2
              exact ⟨⟨j + 1, by omega, by go_num, G7, Lib.hid ⟨_, _, T7.out⟩⟩, by simp [intOf]; omega⟩
        by_cases hk4 : 4 < tk
        · have hd1 : decide (tk < 0) = false := by simp; omega
          have hd2 : decide (4 < tk) = true := by simp [hk4]
          have hdp := Lib.hid (doP_kind a b ⟨tk, tw_, ti, tt, tm, tb⟩ (.inr hk4))
          clear hk0 hk4
          go_wp2_with fail
          have Wa := (Gr.refl wr).alloc (.cells #[.int .i64 4, .int .i64 tw_, .int .i64 ti, .int .i64 tt, .int .u32 (n32 tm), str tb] 31)
          have T8 := tw.out.gr Wa
          obtain ⟨A0, A1, c0, c1, bs, ts0, ts1⟩ := T8.st
          have bx := Blk.new wr 31 #[.int .i64 4, .int .i64 tw_, .int .i64 ti, .int .i64 tt, .int .u32 (n32 tm), str tb]
          have G8 := gr.out.trans Wa
          generalize wr.alloc (.cells #[.int .i64 4, .int .i64 tw_, .int .i64 ti, .int .i64 tt, .int .u32 (n32 tm), str tb] 31) = W8 at T8 bs ts0 ts1 bx G8 ⊢
          refine (do_any T8.lk (T8.oa.ok (by omega)) (T8.ob.ok (by omega)) ⟨4, tw_, ti, tt, tm, tb⟩ hbj ht1 ht2).mono ?_
          rintro e W4 ⟨rfl, q1, q2, q3⟩
          have hrd := Lib.hid (rdo_any (w := W4) ⟨A0, A1, c0, c1, rfl, ts0.kt q2, ts1.kt q2⟩ (T8.oa.ok (by omega)) (T8.ob.ok (by omega)) ⟨4, tw_, ti, tt, tm, tb⟩ ht1 ht2)
          have hok := Lib.hid (doP_okj T8.oa T8.ob ⟨4, tw_, ti, tt, tm, tb⟩ hbj)
          obtain ⟨P, hP⟩ : ∃ P, doP a b ⟨4, tw_, ti, tt, tm, tb⟩ = P := ⟨_, rfl⟩
          rw [hP] at hrd hok q1 ⊢
          replace hP := Lib.hid hP
          have b4 := Lib.hid (q2.blk bs (by decide) (by decide))
          have x4 := Lib.hid (q2.blk bx (by decide) (by decide))
          have G4 := Lib.hid (show Gr w W4 from Below.trans G8 (Below.mono q3 lgw))
          replace q1 := Lib.hid q1
          clear T8 bs ts0 ts1 bx G8 q2 q3 Wa e0 e1 e2 e3 e4 e5 tw gr
          go_wp2_with (first
            | ((with_reducible refine wpList_isLoad 40 (.tmp 4) rfl ?_); refine wpList_load_row rfl 40 (.tmp 4) rfl gs rfl 40 _ (0, 0) _ b4.out Try.underlying40 rfl (stInfo _ _ _ _ _ _) ?_)
            | ((with_reducible refine wpList_isLoad 31 (.tmp 6) rfl ?_); refine wpList_load_row rfl 31 (.tmp 6) rfl wr.heap.size rfl 31 _ (0, 0) _ x4.out Try.underlying31 rfl (acInfo _ _ _ _ _ _) ?_)
            | fail)
          refine (by exact hrd.out : Calls Try.prog 11 #[.agg (stC (.slice A0 a.l.length c0) (.slice A1 b.l.length c1) a b), .agg #[.int .i64 4, .int .i64 tw_, .int .i64 ti, .int .i64 tt, .int .u32 (n32 tm), str tb]] W4 _).mono ?_
          rintro e W5 ⟨v5, rfl, ⟨A0', A1', c0', c1', rfl, s0, s1⟩, g5⟩
          have b5 := Lib.hid (blk_more b4.out g5)
          have k5 := Lib.hid (q1.out.gr g5)
          have G5 := Lib.hid (G4.out.trans g5)
          replace s0 := Lib.hid s0
          replace s1 := Lib.hid s1
          clear g5 b4 x4 G4 q1 hrd
          go_wp2_with (first
            | ((with_reducible refine wpList_isStore 40 (.tmp 4) (.tmp 50) rfl ?_); refine wpList_store_blk rfl 40 (.tmp 4) (.tmp 50) rfl gs _ rfl rfl 40 _ b5.out (stInfo _ _ _ _ _ _) rfl (by simp [Value.oneCell']) ?_; intro W6 n6 m6 z6; have T6 := Lib.hid (show Two W6 g gs (j + 1) P.1 P.2.1 from ⟨k5.out.off m6 b5.out (by decide) (by decide) (by decide), ⟨A0', A1', c0', c1', n6, s0.out.off m6 b5.out (by decide), s1.out.off m6 b5.out (by decide)⟩, hok.out.1, hok.out.2⟩); have G6 := Lib.hid (show Gr w W6 from Below.trans G5.out (Below.mono (Kb.below m6 (Nat.le_of_lt b5.out.lt)) lg)); replace n6 := Lib.hid n6; clear m6 z6 b5 k5 G5 s0 s1 hok)
            | fail)
          go_loopw [11] (fun k wq => ∃ m : Nat, m ≤ 2 ∧ k = .int .i64 (m : Int) ∧ Hid (Gr W6 wq)) (fun k _ => 2 - (intOf k).toNat)
          case atStart => exact ⟨0, by omega, rfl, Lib.hid (Gr.refl W6)⟩
          case round =>
            obtain ⟨m, hm, rfl, g7⟩ := hrel
            rcases (show m = 0 ∨ m = 1 ∨ m = 2 by omega) with rfl | rfl | rfl
            · have T7 := T6.out.gr g7.out
              obtain ⟨_, _, _, _, n7, _, _⟩ := T7.st
              have cl := n7.cell 0
              have cs := n7.cell (2 + 0)
              have cx := n7.cell (4 + 0)
              have hl := Lib.hid (fun n => (by exact len_k (k := 0) (by omega) (wr.drewN n) (T7.lk.gr (below_drewN (Below.refl _ _) n)) : Calls Try.prog 9 #[.pointer (some ⟨g, 0, none⟩), .int .i64 0] (wr.drewN n) fun e w' => e = .returned (.int .i64 (P.1.l.length : Int)) ∧ w' = wr.drewN n))
              have hs := Lib.hid (fun n => (by exact sent_k (k := 0) (by omega) (wr.drewN n) (T7.lk.gr (below_drewN (Below.refl _ _) n)) : Calls Try.prog 12 #[.pointer (some ⟨g, 0, none⟩), .int .i64 0] (wr.drewN n) fun e w' => e = .returned (.int .i64 (P.1.s : Int)) ∧ w' = wr.drewN n))
              have hxx := Lib.hid (fun n => (by exact lost_k (k := 0) (by omega) (wr.drewN n) (T7.lk.gr (below_drewN (Below.refl _ _) n)) : Calls Try.prog 13 #[.pointer (some ⟨g, 0, none⟩), .int .i64 0] (wr.drewN n) fun e w' => e = .returned (.int .i64 (P.1.x : Int)) ∧ w' = wr.drewN n))
              clear T7 n7
              go_wp2
              go_quiet (first
                | (go_at_call 9; exact Calls.quiet_of_same (hl.out _))
                | (go_at_call 12; exact Calls.quiet_of_same (hs.out _))
                | (go_at_call 13; exact Calls.quiet_of_same (hxx.out _)))
              go_wp2
              exact ⟨⟨0 + 1, by omega, rfl, Lib.hid (g7.out.trans (below_drewN (Below.refl _ _) _))⟩, by simp [intOf]⟩
            · have T7 := T6.out.gr g7.out
              obtain ⟨_, _, _, _, n7, _, _⟩ := T7.st
              have cl := n7.cell 1
              have cs := n7.cell (2 + 1)
              have cx := n7.cell (4 + 1)
              have hl := Lib.hid (fun n => (by exact len_k (k := 1) (by omega) (wr.drewN n) (T7.lk.gr (below_drewN (Below.refl _ _) n)) : Calls Try.prog 9 #[.pointer (some ⟨g, 0, none⟩), .int .i64 1] (wr.drewN n) fun e w' => e = .returned (.int .i64 (P.2.1.l.length : Int)) ∧ w' = wr.drewN n))
              have hs := Lib.hid (fun n => (by exact sent_k (k := 1) (by omega) (wr.drewN n) (T7.lk.gr (below_drewN (Below.refl _ _) n)) : Calls Try.prog 12 #[.pointer (some ⟨g, 0, none⟩), .int .i64 1] (wr.drewN n) fun e w' => e = .returned (.int .i64 (P.2.1.s : Int)) ∧ w' = wr.drewN n))
              have hxx := Lib.hid (fun n => (by exact lost_k (k := 1) (by omega) (wr.drewN n) (T7.lk.gr (below_drewN (Below.refl _ _) n)) : Calls Try.prog 13 #[.pointer (some ⟨g, 0, none⟩), .int .i64 1] (wr.drewN n) fun e w' => e = .returned (.int .i64 (P.2.1.x : Int)) ∧ w' = wr.drewN n))
              clear T7 n7
              go_wp2
              go_quiet (first
                | (go_at_call 9; exact Calls.quiet_of_same (hl.out _))
                | (go_at_call 12; exact Calls.quiet_of_same (hs.out _))
                | (go_at_call 13; exact Calls.quiet_of_same (hxx.out _)))
              go_wp2
              exact ⟨⟨1 + 1, by omega, rfl, Lib.hid (g7.out.trans (below_drewN (Below.refl _ _) _))⟩, by simp [intOf]⟩
            · have T7 := Lib.hid (T6.out.gr g7.out)
              have G7 := Lib.hid (G6.out.trans g7.out)
              clear T6 G6 n6
              go_wp2
              exact ⟨⟨j + 1, by omega, by go_num, G7, Lib.hid ⟨_, _, T7.out⟩⟩, by simp [intOf]; omega⟩
        · have hd1 : decide (tk < 0) = false := by simp; omega
          have hd2 : decide (4 < tk) = false := by simp; omega
          have hdp := Lib.hid (rfl : doP a b ⟨tk, tw_, ti, tt, tm, tb⟩ = doP a b ⟨tk, tw_, ti, tt, tm, tb⟩)
          clear hk0 hk4
          go_wp2_with fail
          have Wa := (Gr.refl wr).alloc (.cells #[.int .i64 tk, .int .i64 tw_, .int .i64 ti, .int .i64 tt, .int .u32 (n32 tm), str tb] 31)
          have T8 := tw.out.gr Wa
          obtain ⟨A0, A1, c0, c1, bs, ts0, ts1⟩ := T8.st
          have bx := Blk.new wr 31 #[.int .i64 tk, .int .i64 tw_, .int .i64 ti, .int .i64 tt, .int .u32 (n32 tm), str tb]
          have G8 := gr.out.trans Wa
          generalize wr.alloc (.cells #[.int .i64 tk, .int .i64 tw_, .int .i64 ti, .int .i64 tt, .int .u32 (n32 tm), str tb] 31) = W8 at T8 bs ts0 ts1 bx G8 ⊢
          refine (do_any T8.lk (T8.oa.ok (by omega)) (T8.ob.ok (by omega)) ⟨tk, tw_, ti, tt, tm, tb⟩ hbj ht1 ht2).mono ?_
          rintro e W4 ⟨rfl, q1, q2, q3⟩
          have hrd := Lib.hid (rdo_any (w := W4) ⟨A0, A1, c0, c1, rfl, ts0.kt q2, ts1.kt q2⟩ (T8.oa.ok (by omega)) (T8.ob.ok (by omega)) ⟨tk, tw_, ti, tt, tm, tb⟩ ht1 ht2)
          have hok := Lib.hid (doP_okj T8.oa T8.ob ⟨tk, tw_, ti, tt, tm, tb⟩ hbj)
          obtain ⟨P, hP⟩ : ∃ P, doP a b ⟨tk, tw_, ti, tt, tm, tb⟩ = P := ⟨_, rfl⟩
          rw [hP] at hrd hok q1 ⊢
          replace hP := Lib.hid hP
          have b4 := Lib.hid (q2.blk bs (by decide) (by decide))
          have x4 := Lib.hid (q2.blk bx (by decide) (by decide))
          have G4 := Lib.hid (show Gr w W4 from Below.trans G8 (Below.mono q3 lgw))
          replace q1 := Lib.hid q1
          clear T8 bs ts0 ts1 bx G8 q2 q3 Wa e0 e1 e2 e3 e4 e5 tw gr
          go_wp2_with (first
            | ((with_reducible refine wpList_isLoad 40 (.tmp 4) rfl ?_); refine wpList_load_row rfl 40 (.tmp 4) rfl gs rfl 40 _ (0, 0) _ b4.out Try.underlying40 rfl (stInfo _ _ _ _ _ _) ?_)
            | ((with_reducible refine wpList_isLoad 31 (.tmp 6) rfl ?_); refine wpList_load_row rfl 31 (.tmp 6) rfl wr.heap.size rfl 31 _ (0, 0) _ x4.out Try.underlying31 rfl (acInfo _ _ _ _ _ _) ?_)
            | fail)
          refine (by exact hrd.out : Calls Try.prog 11 #[.agg (stC (.slice A0 a.l.length c0) (.slice A1 b.l.length c1) a b), .agg #[.int .i64 tk, .int .i64 tw_, .int .i64 ti, .int .i64 tt, .int .u32 (n32 tm), str tb]] W4 _).mono ?_
          rintro e W5 ⟨v5, rfl, ⟨A0', A1', c0', c1', rfl, s0, s1⟩, g5⟩
          have b5 := Lib.hid (blk_more b4.out g5)
          have k5 := Lib.hid (q1.out.gr g5)
          have G5 := Lib.hid (G4.out.trans g5)
          replace s0 := Lib.hid s0
          replace s1 := Lib.hid s1
          clear g5 b4 x4 G4 q1 hrd
          go_wp2_with (first
            | ((with_reducible refine wpList_isStore 40 (.tmp 4) (.tmp 50) rfl ?_); refine wpList_store_blk rfl 40 (.tmp 4) (.tmp 50) rfl gs _ rfl rfl 40 _ b5.out (stInfo _ _ _ _ _ _) rfl (by simp [Value.oneCell']) ?_; intro W6 n6 m6 z6; have T6 := Lib.hid (show Two W6 g gs (j + 1) P.1 P.2.1 from ⟨k5.out.off m6 b5.out (by decide) (by decide) (by decide), ⟨A0', A1', c0', c1', n6, s0.out.off m6 b5.out (by decide), s1.out.off m6 b5.out (by decide)⟩, hok.out.1, hok.out.2⟩); have G6 := Lib.hid (show Gr w W6 from Below.trans G5.out (Below.mono (Kb.below m6 (Nat.le_of_lt b5.out.lt)) lg)); replace n6 := Lib.hid n6; clear m6 z6 b5 k5 G5 s0 s1 hok)
            | fail)
          go_loopw [11] (fun k wq => ∃ m : Nat, m ≤ 2 ∧ k = .int .i64 (m : Int) ∧ Hid (Gr W6 wq)) (fun k _ => 2 - (intOf k).toNat)
          case atStart => exact ⟨0, by omega, rfl, Lib.hid (Gr.refl W6)⟩
          case round =>
            obtain ⟨m, hm, rfl, g7⟩ := hrel
            rcases (show m = 0 ∨ m = 1 ∨ m = 2 by omega) with rfl | rfl | rfl
            · have T7 := T6.out.gr g7.out
              obtain ⟨_, _, _, _, n7, _, _⟩ := T7.st
              have cl := n7.cell 0
              have cs := n7.cell (2 + 0)
              have cx := n7.cell (4 + 0)
              have hl := Lib.hid (fun n => (by exact len_k (k := 0) (by omega) (wr.drewN n) (T7.lk.gr (below_drewN (Below.refl _ _) n)) : Calls Try.prog 9 #[.pointer (some ⟨g, 0, none⟩), .int .i64 0] (wr.drewN n) fun e w' => e = .returned (.int .i64 (P.1.l.length : Int)) ∧ w' = wr.drewN n))
              have hs := Lib.hid (fun n => (by exact sent_k (k := 0) (by omega) (wr.drewN n) (T7.lk.gr (below_drewN (Below.refl _ _) n)) : Calls Try.prog 12 #[.pointer (some ⟨g, 0, none⟩), .int .i64 0] (wr.drewN n) fun e w' => e = .returned (.int .i64 (P.1.s : Int)) ∧ w' = wr.drewN n))
              have hxx := Lib.hid (fun n => (by exact lost_k (k := 0) (by omega) (wr.drewN n) (T7.lk.gr (below_drewN (Below.refl _ _) n)) : Calls Try.prog 13 #[.pointer (some ⟨g, 0, none⟩), .int .i64 0] (wr.drewN n) fun e w' => e = .returned (.int .i64 (P.1.x : Int)) ∧ w' = wr.drewN n))
              clear T7 n7
              go_wp2
              go_quiet (first
                | (go_at_call 9; exact Calls.quiet_of_same (hl.out _))
                | (go_at_call 12; exact Calls.quiet_of_same (hs.out _))
                | (go_at_call 13; exact Calls.quiet_of_same (hxx.out _)))
              go_wp2
              exact ⟨⟨0 + 1, by omega, rfl, Lib.hid (g7.out.trans (below_drewN (Below.refl _ _) _))⟩, by simp [intOf]⟩
            · have T7 := T6.out.gr g7.out
              obtain ⟨_, _, _, _, n7, _, _⟩ := T7.st
              have cl := n7.cell 1
              have cs := n7.cell (2 + 1)
              have cx := n7.cell (4 + 1)
              have hl := Lib.hid (fun n => (by exact len_k (k := 1) (by omega) (wr.drewN n) (T7.lk.gr (below_drewN (Below.refl _ _) n)) : Calls Try.prog 9 #[.pointer (some ⟨g, 0, none⟩), .int .i64 1] (wr.drewN n) fun e w' => e = .returned (.int .i64 (P.2.1.l.length : Int)) ∧ w' = wr.drewN n))
              have hs := Lib.hid (fun n => (by exact sent_k (k := 1) (by omega) (wr.drewN n) (T7.lk.gr (below_drewN (Below.refl _ _) n)) : Calls Try.prog 12 #[.pointer (some ⟨g, 0, none⟩), .int .i64 1] (wr.drewN n) fun e w' => e = .returned (.int .i64 (P.2.1.s : Int)) ∧ w' = wr.drewN n))
              have hxx := Lib.hid (fun n => (by exact lost_k (k := 1) (by omega) (wr.drewN n) (T7.lk.gr (below_drewN (Below.refl _ _) n)) : Calls Try.prog 13 #[.pointer (some ⟨g, 0, none⟩), .int .i64 1] (wr.drewN n) fun e w' => e = .returned (.int .i64 (P.2.1.x : Int)) ∧ w' = wr.drewN n))
              clear T7 n7
              go_wp2
              go_quiet (first
                | (go_at_call 9; exact Calls.quiet_of_same (hl.out _))
                | (go_at_call 12; exact Calls.quiet_of_same (hs.out _))
                | (go_at_call 13; exact Calls.quiet_of_same (hxx.out _)))
              go_wp2
              exact ⟨⟨1 + 1, by omega, rfl, Lib.hid (g7.out.trans (below_drewN (Below.refl _ _) _))⟩, by simp [intOf]⟩
            · have T7 := Lib.hid (T6.out.gr g7.out)
              have G7 := Lib.hid (G6.out.trans g7.out)
              clear T6 G6 n6
              go_wp2
              exact ⟨⟨j + 1, by omega, by go_num, G7, Lib.hid ⟨_, _, T7.out⟩⟩, by simp [intOf]; omega⟩
      · obtain rfl : j = l.length := by omega
        clear tw
        go_wp2_with fail
        refine (send_none (.pointer none) (.slice none 0 0) 0 (noWay_nil 0) _).mono ?_
        rintro e _ ⟨rfl, rfl⟩
        go_wp2_with fail
        refine (deliver_none (.pointer none) 0 0 _ (noPk_way (noWay_nil 0) 0 _)).mono ?_
        rintro e _ ⟨rfl, rfl⟩
        go_wp2_with fail
        refine (awake_any _).mono ?_
        rintro e _ ⟨rfl, gw⟩
        replace gw := Lib.hid gw
        go_wp2_with fail
        refine (drop_none (.pointer none) 0 0 _ (noPk_way (noWay_nil 0) 0 _)).mono ?_
        rintro e _ ⟨rfl, rfl⟩
        go_wp2_with fail
        refine (double_none (.pointer none) 1 0 _ (noPk_way (noWay_nil 1) 0 _)).mono ?_
        rintro e _ ⟨rfl, rfl⟩
        go_wp2_with fail
        refine (turn_none (.pointer none) 0 0 0 1 _ (noPk_way (noWay_nil 0) 0 _)).mono ?_
        rintro e _ ⟨rfl, rfl⟩
        go_wp2_with fail
        refine (len_none (.pointer none) 0 (noWay_nil 0) _).mono ?_
        rintro e _ ⟨rfl, rfl⟩
        go_wp2_with fail
        refine (sent_none (.pointer none) 0 (noWay_nil 0) _).mono ?_
        rintro e _ ⟨rfl, rfl⟩
        go_wp2_with fail
        refine (lost_none (.pointer none) 1 (noWay_nil 1) _).mono ?_
        rintro e _ ⟨rfl, rfl⟩
        go_wp2_with fail
        refine (len_none (.pointer (some ⟨g, 0, none⟩)) 2 (noWay_out g 2 (by omega)) _).mono ?_
        rintro e _ ⟨rfl, rfl⟩
        go_wp2_with fail
        refine (sent_none (.pointer (some ⟨g, 0, none⟩)) (-1) (noWay_out g (-1) (by omega)) _).mono ?_
        rintro e _ ⟨rfl, rfl⟩
        go_wp2
        go_ret
        exact ⟨_, rfl, rfl, gr.out.trans gw.out⟩
  · have hq' : fewB l = false := by simpa using hq
    rw [hq'] at hfe
    clear hq
    go_enter Try.func4, Try.ntmps4
    go_wp2_with fail
    refine hfe.out.mono ?_
    rintro e W1 ⟨rfl, g1⟩
    go_wp2_with fail
    refine (awake_any _).mono ?_
    rintro e W2 ⟨rfl, g2⟩
    go_wp2
    go_ret
    exact ⟨_, rfl, rfl, g1.trans g2⟩
end Ln
end Go.Proofs.Ytpkbdodclkgjpaa

