/- The walk of the reference's Do: no such way, no such packet; joined. No condition but sizes. -/
import Derived.Test.YtpkbdodclkgjpaaLnkRefD
set_option linter.unusedVariables false
set_option linter.unusedSimpArgs false
namespace Go.Proofs.Ytpkbdodclkgjpaa
open Go Go.RowKit Go.Shelf W
namespace Ln
abbrev acC' (c : Ac) : Array Value := #[.int .i64 c.k, .int .i64 c.w, .int .i64 c.i, .int .i64 c.t, .int .u32 (n32 c.m), str c.b]
set_option maxRecDepth 100000 in
set_option maxHeartbeats 8000000 in
theorem rdo_way (A0 A1 : Option Addr) (c0 c1 : Nat) (a b : Way) (c : Ac) (w : World) (hw0 : c.w ≠ 0) (hw1 : c.w ≠ 1) :
    Calls Try.prog 11 #[.agg (stC (.slice A0 a.l.length c0) (.slice A1 b.l.length c1) a b), .agg (acC' c)] w fun e w' => e = .returned (.tuple #[.agg (stC (.slice A0 a.l.length c0) (.slice A1 b.l.length c1) a b), str [], .bool false]) ∧ Gr w w' := by
  have k1 : (c.w != 0) = true := by simp [hw0]
  have k2 : (c.w != 1) = true := by simp [hw1]
  have k3 : (c.w == 0) = false := by simp [hw0]
  have k4 : (c.w == 1) = false := by simp [hw1]
  go_enter Try.func11, Try.ntmps11
  go_wp2
  have n10 := Blk.new ((w.alloc (.cells (stC (.slice A0 a.l.length c0) (.slice A1 b.l.length c1) a b) 40)).alloc (.cells (acC' c) 31)) 40 (stC (.slice A0 a.l.length c0) (.slice A1 b.l.length c1) a b)
  rw [World.size_alloc, World.size_alloc] at n10
  replace n10 := Lib.hid n10
  refine bodyPost_ret (results_cell_row2 Try.results11 _ _ (w.heap.size + 1 + 1) 40 _ (0, 0) _ rfl n10.out Try.underlying40 rfl (stInfo _ _ _ _ _ _)) rfl ?_
  exact ⟨rfl, (((Gr.refl w).alloc _).alloc _).alloc _⟩
set_option maxRecDepth 100000 in
set_option maxHeartbeats 8000000 in
theorem rdo0_out (A0 A1 : Option Addr) (c0 c1 : Nat) (a b : Way) (c : Ac) (w : World) (hk : c.k ≠ 0) (hi : ¬ (0 ≤ c.i ∧ c.i < (a.l.length : Int))) :
    Calls Try.prog 11 #[.agg (stC (.slice A0 a.l.length c0) (.slice A1 b.l.length c1) a b), .agg (acW c 0)] w fun e w' => e = .returned (.tuple #[.agg (stC (.slice A0 a.l.length c0) (.slice A1 b.l.length c1) a b), str [], .bool false]) ∧ Gr w w' := by
  have k1 : (c.k == 0) = false := by simp; omega
  by_cases h0 : c.i < 0
  · have hd1 : decide (c.i < 0) = true := by simp [h0]
    clear hi
    go_enter Try.func11, Try.ntmps11
    go_wp2
    go_quiet (fail)
    have N9 : Blk ((((w.alloc (.cells (stC (.slice A0 a.l.length c0) (.slice A1 b.l.length c1) a b) 40)).alloc (.cells (acW c 0) 31)).alloc (.cells stZ 40)).drewN nq) w.heap.size 40 (stC (.slice A0 a.l.length c0) (.slice A1 b.l.length c1) a b) := ((((Blk.new w _ _).alloc _).alloc _).drewN nq)
    have Z9 := Blk.new ((w.alloc (.cells (stC (.slice A0 a.l.length c0) (.slice A1 b.l.length c1) a b) 40)).alloc (.cells (acW c 0) 31)) 40 stZ
    rw [World.size_alloc, World.size_alloc] at Z9
    replace Z9 := Z9.drewN nq
    have G9 : Gr w ((((w.alloc (.cells (stC (.slice A0 a.l.length c0) (.slice A1 b.l.length c1) a b) 40)).alloc (.cells (acW c 0) 31)).alloc (.cells stZ 40)).drewN nq) := below_drewN ((((Gr.refl w).alloc _).alloc _).alloc _) nq
    generalize ((((w.alloc (.cells (stC (.slice A0 a.l.length c0) (.slice A1 b.l.length c1) a b) 40)).alloc (.cells (acW c 0) 31)).alloc (.cells stZ 40)).drewN nq) = V at N9 Z9 G9 ⊢
    have z9 := Lib.hid Z9.lt
    replace N9 := Lib.hid N9
    replace Z9 := Lib.hid Z9
    replace G9 := Lib.hid G9
    go_wp2_with (first
      | ((with_reducible refine wpList_isLoad 40 (.tmp 2) rfl ?_); refine wpList_load_row rfl 40 (.tmp 2) rfl w.heap.size rfl 40 _ (0, 0) _ N9.out Try.underlying40 rfl (stInfo _ _ _ _ _ _) ?_)
      | ((with_reducible refine wpList_isStore 40 (.tmp 4) (.tmp 51) rfl ?_); refine wpList_store_blk rfl 40 (.tmp 4) (.tmp 51) rfl (w.heap.size + 1 + 1) _ rfl rfl 40 stZ Z9.out (stInfo _ _ _ _ _ _) rfl (by simp [Value.oneCell']) ?_; intro w10 n10 k10 z10; replace n10 := Lib.hid n10; replace k10 := Lib.hid k10; clear z10))
    refine bodyPost_ret (results_cell_row2 Try.results11 _ _ (w.heap.size + 1 + 1) 40 _ (0, 0) _ rfl n10.out Try.underlying40 rfl (stInfo _ _ _ _ _ _)) rfl ?_
    have z9' := z9.out
    exact ⟨rfl, keep_at G9.out k10.out (by omega) (Nat.le_of_lt z9.out)⟩
  · have hd1 : decide (c.i < 0) = false := by simp; omega
    have hd2 : decide ((a.l.length : Int) ≤ c.i) = true := by simp; omega
    clear hi
    go_enter Try.func11, Try.ntmps11
    go_wp2
    go_quiet (fail)
    have N9 : Blk ((((w.alloc (.cells (stC (.slice A0 a.l.length c0) (.slice A1 b.l.length c1) a b) 40)).alloc (.cells (acW c 0) 31)).alloc (.cells stZ 40)).drewN nq) w.heap.size 40 (stC (.slice A0 a.l.length c0) (.slice A1 b.l.length c1) a b) := ((((Blk.new w _ _).alloc _).alloc _).drewN nq)
    have Z9 := Blk.new ((w.alloc (.cells (stC (.slice A0 a.l.length c0) (.slice A1 b.l.length c1) a b) 40)).alloc (.cells (acW c 0) 31)) 40 stZ
    rw [World.size_alloc, World.size_alloc] at Z9
    replace Z9 := Z9.drewN nq
    have G9 : Gr w ((((w.alloc (.cells (stC (.slice A0 a.l.length c0) (.slice A1 b.l.length c1) a b) 40)).alloc (.cells (acW c 0) 31)).alloc (.cells stZ 40)).drewN nq) := below_drewN ((((Gr.refl w).alloc _).alloc _).alloc _) nq
    generalize ((((w.alloc (.cells (stC (.slice A0 a.l.length c0) (.slice A1 b.l.length c1) a b) 40)).alloc (.cells (acW c 0) 31)).alloc (.cells stZ 40)).drewN nq) = V at N9 Z9 G9 ⊢
    have z9 := Lib.hid Z9.lt
    replace N9 := Lib.hid N9
    replace Z9 := Lib.hid Z9
    replace G9 := Lib.hid G9
    go_wp2_with (first
      | ((with_reducible refine wpList_isLoad 40 (.tmp 2) rfl ?_); refine wpList_load_row rfl 40 (.tmp 2) rfl w.heap.size rfl 40 _ (0, 0) _ N9.out Try.underlying40 rfl (stInfo _ _ _ _ _ _) ?_)
      | ((with_reducible refine wpList_isStore 40 (.tmp 4) (.tmp 51) rfl ?_); refine wpList_store_blk rfl 40 (.tmp 4) (.tmp 51) rfl (w.heap.size + 1 + 1) _ rfl rfl 40 stZ Z9.out (stInfo _ _ _ _ _ _) rfl (by simp [Value.oneCell']) ?_; intro w10 n10 k10 z10; replace n10 := Lib.hid n10; replace k10 := Lib.hid k10; clear z10))
    refine bodyPost_ret (results_cell_row2 Try.results11 _ _ (w.heap.size + 1 + 1) 40 _ (0, 0) _ rfl n10.out Try.underlying40 rfl (stInfo _ _ _ _ _ _)) rfl ?_
    have z9' := z9.out
    exact ⟨rfl, keep_at G9.out k10.out (by omega) (Nat.le_of_lt z9.out)⟩
set_option maxRecDepth 100000 in
set_option maxHeartbeats 8000000 in
theorem rdo1_out (A0 A1 : Option Addr) (c0 c1 : Nat) (a b : Way) (c : Ac) (w : World) (hk : c.k ≠ 0) (hi : ¬ (0 ≤ c.i ∧ c.i < (a.l.length : Int))) :
    Calls Try.prog 11 #[.agg (stC (.slice A1 b.l.length c1) (.slice A0 a.l.length c0) b a), .agg (acW c 1)] w fun e w' => e = .returned (.tuple #[.agg (stC (.slice A1 b.l.length c1) (.slice A0 a.l.length c0) b a), str [], .bool false]) ∧ Gr w w' := by
  have k1 : (c.k == 0) = false := by simp; omega
  by_cases h0 : c.i < 0
  · have hd1 : decide (c.i < 0) = true := by simp [h0]
    clear hi
    go_enter Try.func11, Try.ntmps11
    go_wp2
    go_quiet (fail)
    have N9 : Blk ((((w.alloc (.cells (stC (.slice A1 b.l.length c1) (.slice A0 a.l.length c0) b a) 40)).alloc (.cells (acW c 1) 31)).alloc (.cells stZ 40)).drewN nq) w.heap.size 40 (stC (.slice A1 b.l.length c1) (.slice A0 a.l.length c0) b a) := ((((Blk.new w _ _).alloc _).alloc _).drewN nq)
    have Z9 := Blk.new ((w.alloc (.cells (stC (.slice A1 b.l.length c1) (.slice A0 a.l.length c0) b a) 40)).alloc (.cells (acW c 1) 31)) 40 stZ
    rw [World.size_alloc, World.size_alloc] at Z9
    replace Z9 := Z9.drewN nq
    have G9 : Gr w ((((w.alloc (.cells (stC (.slice A1 b.l.length c1) (.slice A0 a.l.length c0) b a) 40)).alloc (.cells (acW c 1) 31)).alloc (.cells stZ 40)).drewN nq) := below_drewN ((((Gr.refl w).alloc _).alloc _).alloc _) nq
    generalize ((((w.alloc (.cells (stC (.slice A1 b.l.length c1) (.slice A0 a.l.length c0) b a) 40)).alloc (.cells (acW c 1) 31)).alloc (.cells stZ 40)).drewN nq) = V at N9 Z9 G9 ⊢
    have z9 := Lib.hid Z9.lt
    replace N9 := Lib.hid N9
    replace Z9 := Lib.hid Z9
    replace G9 := Lib.hid G9
    go_wp2_with (first
      | ((with_reducible refine wpList_isLoad 40 (.tmp 2) rfl ?_); refine wpList_load_row rfl 40 (.tmp 2) rfl w.heap.size rfl 40 _ (0, 0) _ N9.out Try.underlying40 rfl (stInfo _ _ _ _ _ _) ?_)
      | ((with_reducible refine wpList_isStore 40 (.tmp 4) (.tmp 51) rfl ?_); refine wpList_store_blk rfl 40 (.tmp 4) (.tmp 51) rfl (w.heap.size + 1 + 1) _ rfl rfl 40 stZ Z9.out (stInfo _ _ _ _ _ _) rfl (by simp [Value.oneCell']) ?_; intro w10 n10 k10 z10; replace n10 := Lib.hid n10; replace k10 := Lib.hid k10; clear z10))
    refine bodyPost_ret (results_cell_row2 Try.results11 _ _ (w.heap.size + 1 + 1) 40 _ (0, 0) _ rfl n10.out Try.underlying40 rfl (stInfo _ _ _ _ _ _)) rfl ?_
    have z9' := z9.out
    exact ⟨rfl, keep_at G9.out k10.out (by omega) (Nat.le_of_lt z9.out)⟩
  · have hd1 : decide (c.i < 0) = false := by simp; omega
    have hd2 : decide ((a.l.length : Int) ≤ c.i) = true := by simp; omega
    clear hi
    go_enter Try.func11, Try.ntmps11
    go_wp2
    go_quiet (fail)
    have N9 : Blk ((((w.alloc (.cells (stC (.slice A1 b.l.length c1) (.slice A0 a.l.length c0) b a) 40)).alloc (.cells (acW c 1) 31)).alloc (.cells stZ 40)).drewN nq) w.heap.size 40 (stC (.slice A1 b.l.length c1) (.slice A0 a.l.length c0) b a) := ((((Blk.new w _ _).alloc _).alloc _).drewN nq)
    have Z9 := Blk.new ((w.alloc (.cells (stC (.slice A1 b.l.length c1) (.slice A0 a.l.length c0) b a) 40)).alloc (.cells (acW c 1) 31)) 40 stZ
    rw [World.size_alloc, World.size_alloc] at Z9
    replace Z9 := Z9.drewN nq
    have G9 : Gr w ((((w.alloc (.cells (stC (.slice A1 b.l.length c1) (.slice A0 a.l.length c0) b a) 40)).alloc (.cells (acW c 1) 31)).alloc (.cells stZ 40)).drewN nq) := below_drewN ((((Gr.refl w).alloc _).alloc _).alloc _) nq
    generalize ((((w.alloc (.cells (stC (.slice A1 b.l.length c1) (.slice A0 a.l.length c0) b a) 40)).alloc (.cells (acW c 1) 31)).alloc (.cells stZ 40)).drewN nq) = V at N9 Z9 G9 ⊢
    have z9 := Lib.hid Z9.lt
    replace N9 := Lib.hid N9
    replace Z9 := Lib.hid Z9
    replace G9 := Lib.hid G9
    go_wp2_with (first
      | ((with_reducible refine wpList_isLoad 40 (.tmp 2) rfl ?_); refine wpList_load_row rfl 40 (.tmp 2) rfl w.heap.size rfl 40 _ (0, 0) _ N9.out Try.underlying40 rfl (stInfo _ _ _ _ _ _) ?_)
      | ((with_reducible refine wpList_isStore 40 (.tmp 4) (.tmp 51) rfl ?_); refine wpList_store_blk rfl 40 (.tmp 4) (.tmp 51) rfl (w.heap.size + 1 + 1) _ rfl rfl 40 stZ Z9.out (stInfo _ _ _ _ _ _) rfl (by simp [Value.oneCell']) ?_; intro w10 n10 k10 z10; replace n10 := Lib.hid n10; replace k10 := Lib.hid k10; clear z10))
    refine bodyPost_ret (results_cell_row2 Try.results11 _ _ (w.heap.size + 1 + 1) 40 _ (0, 0) _ rfl n10.out Try.underlying40 rfl (stInfo _ _ _ _ _ _)) rfl ?_
    have z9' := z9.out
    exact ⟨rfl, keep_at G9.out k10.out (by omega) (Nat.le_of_lt z9.out)⟩
/-- The reference's Do on the way 0. -/
theorem rdo0 (A0 A1 : Option Addr) (c0 c1 : Nat) (a b : Way) (c : Ac) (ht1 : -9223372036854775808 ≤ c.t) (ht2 : c.t ≤ 9223372036854775807) (w : World) (h0 : TS w (.slice A0 a.l.length c0) a.l) (ha : Okw a) :
    Calls Try.prog 11 #[.agg (stC (.slice A0 a.l.length c0) (.slice A1 b.l.length c1) a b), .agg (acW c 0)] w fun e w' => ∃ A' c', e = .returned (.tuple #[.agg (stC (.slice A' (doY a c).1.l.length c') (.slice A1 b.l.length c1) (doY a c).1 b), str (doY a c).2.1, .bool (doY a c).2.2]) ∧
      TS w' (.slice A' (doY a c).1.l.length c') (doY a c).1.l ∧ Gr w w' := by
  by_cases hk : c.k = 0
  · exact (rdo0_send A0 A1 c0 c1 a b c w h0.rs ha hk).mono fun e w' ⟨A', c', q1, q2, q3⟩ => ⟨A', c', q1, q2.ts, q3⟩
  by_cases hi : 0 ≤ c.i ∧ c.i < (a.l.length : Int)
  · exact rdo0_at A0 A1 c0 c1 a b c ht1 ht2 w h0 ha hk c.i.toNat (by omega) (by omega)
  · rw [doY_out hk hi]
    exact (rdo0_out A0 A1 c0 c1 a b c w hk hi).mono fun e w' ⟨q1, q2⟩ => ⟨A0, c0, q1, h0.gr q2, q2⟩
/-- The reference's Do on the way 1. -/
theorem rdo1 (A0 A1 : Option Addr) (c0 c1 : Nat) (a b : Way) (c : Ac) (ht1 : -9223372036854775808 ≤ c.t) (ht2 : c.t ≤ 9223372036854775807) (w : World) (h0 : TS w (.slice A0 a.l.length c0) a.l) (ha : Okw a) :
    Calls Try.prog 11 #[.agg (stC (.slice A1 b.l.length c1) (.slice A0 a.l.length c0) b a), .agg (acW c 1)] w fun e w' => ∃ A' c', e = .returned (.tuple #[.agg (stC (.slice A1 b.l.length c1) (.slice A' (doY a c).1.l.length c') b (doY a c).1), str (doY a c).2.1, .bool (doY a c).2.2]) ∧
      TS w' (.slice A' (doY a c).1.l.length c') (doY a c).1.l ∧ Gr w w' := by
  by_cases hk : c.k = 0
  · exact (rdo1_send A0 A1 c0 c1 a b c w h0.rs ha hk).mono fun e w' ⟨A', c', q1, q2, q3⟩ => ⟨A', c', q1, q2.ts, q3⟩
  by_cases hi : 0 ≤ c.i ∧ c.i < (a.l.length : Int)
  · exact rdo1_at A0 A1 c0 c1 a b c ht1 ht2 w h0 ha hk c.i.toNat (by omega) (by omega)
  · rw [doY_out hk hi]
    exact (rdo1_out A0 A1 c0 c1 a b c w hk hi).mono fun e w' ⟨q1, q2⟩ => ⟨A0, c0, q1, h0.gr q2, q2⟩
/-- What the reference's state is, in memory. -/
def RSt (w : World) (v : Value) (a b : Way) : Prop := ∃ A0 A1 c0 c1, v = .agg (stC (.slice A0 a.l.length c0) (.slice A1 b.l.length c1) a b) ∧ TS w (.slice A0 a.l.length c0) a.l ∧ TS w (.slice A1 b.l.length c1) b.l
theorem RSt.gr {w w' : World} {v : Value} {a b : Way} (h : RSt w v a b) (k : Gr w w') : RSt w' v a b := by
  obtain ⟨A0, A1, c0, c1, h1, h2, h3⟩ := h
  exact ⟨A0, A1, c0, c1, h1, h2.gr k, h3.gr k⟩
theorem RSt.kt {w w' : World} {v : Value} {a b : Way} (h : RSt w v a b) (k : KT w w') : RSt w' v a b := by
  obtain ⟨A0, A1, c0, c1, h1, h2, h3⟩ := h
  exact ⟨A0, A1, c0, c1, h1, h2.kt k, h3.kt k⟩
theorem rdo_any {w : World} {v : Value} {a b : Way} (h : RSt w v a b) (ha : Okw a) (hb : Okw b) (c : Ac) (ht1 : -9223372036854775808 ≤ c.t) (ht2 : c.t ≤ 9223372036854775807) :
    Calls Try.prog 11 #[v, .agg (acC' c)] w fun e w' => ∃ v', e = .returned (.tuple #[v', str (doP a b c).2.2.1, .bool (doP a b c).2.2.2]) ∧ RSt w' v' (doP a b c).1 (doP a b c).2.1 ∧ Gr w w' := by
  obtain ⟨A0, A1, c0, c1, rfl, h0, h1⟩ := h
  unfold doP
  by_cases hw0 : c.w = 0
  · rw [if_pos hw0]
    have := rdo0 A0 A1 c0 c1 a b c ht1 ht2 w h0 ha
    rw [← hw0] at this
    exact this.mono fun e w' ⟨A', c', q1, q2, q3⟩ => ⟨_, q1, ⟨A', A1, c', c1, rfl, q2, h1.gr q3⟩, q3⟩
  by_cases hw1 : c.w = 1
  · rw [if_neg hw0, if_pos hw1]
    have := rdo1 A1 A0 c1 c0 b a c ht1 ht2 w h1 hb
    rw [← hw1] at this
    exact this.mono fun e w' ⟨A', c', q1, q2, q3⟩ => ⟨_, q1, ⟨A0, A', c0, c', rfl, h0.gr q3, q2⟩, q3⟩
  · rw [if_neg hw0, if_neg hw1]
    exact (rdo_way A0 A1 c0 c1 a b c w hw0 hw1).mono fun e w' ⟨q1, q2⟩ => ⟨_, q1, ⟨A0, A1, c0, c1, rfl, h0.gr q2, h1.gr q2⟩, q2⟩
end Ln
end Go.Proofs.Ytpkbdodclkgjpaa

