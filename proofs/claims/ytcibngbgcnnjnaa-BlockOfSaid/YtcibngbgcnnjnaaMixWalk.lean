/- The walks of the strong sum's rounds, and of their reference. No condition. -/
import Derived.Test.YtcibngbgcnnjnaaChecked
import Derived.Test.YtcibngbgcnnjnaaGrowB
import Derived.Test.YtcibngbgcnnjnaaMixSpec
import Derived.WalkKit
import Derived.WalkLawsBesides
import Derived.WalkSpells
import Derived.Deep.QuietTactic
import Derived.BigQuiet
import Derived.Deep.RegionLaw
import Derived.Deep.RegionHeld3
set_option linter.unusedVariables false
set_option linter.unusedSimpArgs false
namespace Go.Proofs.Ytcibngbgcnnjnaa
open Go Go.RowKit W
namespace Mix
/-- A sum as a value. -/
def sumV (s : St) : Value := .agg #[.int .u64 (n64 s.1), .int .u64 (n64 s.2)]
attribute [go_sem] sumV
theorem or_eq {x a b k j : UInt64} (h1 : a = k) (h2 : b = j) : x * a ||| b = x * k ||| j := by rw [h1, h2]
theorem shr_eq (x : UInt64) (m k : Nat) (j : UInt64) (h : m = k) (hj : j.toNat = 2 ^ k) : UInt64.ofInt (n64 x / 2 ^ m) = x / j := by
  subst h
  have e : n64 x / 2 ^ m = ((x.toNat / 2 ^ m : Nat) : Int) := by unfold n64; simp
  rw [e, w_ofNat_u64]
  apply UInt64.toNat_inj.1
  rw [UInt64.toNat_div, hj, UInt64.toNat_ofNat']
  have h1 : x.toNat / 2 ^ m ≤ x.toNat := Nat.div_le_self _ _
  have h2 := x.toNat_lt
  exact Nat.mod_eq_of_lt (Nat.lt_of_le_of_lt h1 h2)
theorem rot29_any (x : UInt64) (w : World) : Calls Try.prog 69 #[.int .u64 (n64 x), .int .i64 29] w fun e w' => e = .returned (.int .u64 (n64 (rots 29 x))) ∧ w = w' := by
  have h := Lib.hid (turn29 x)
  go_enter Try.func69, Try.ntmps69
  go_wp2
  go_ret
  refine ⟨?_, rfl⟩
  rw [← h.out]
  exact congrArg (fun z => Ending.returned (.int .u64 (n64 z))) (or_eq (by decide) (shr_eq x _ 35 _ (by decide) rfl))
theorem rot41_any (x : UInt64) (w : World) : Calls Try.prog 69 #[.int .u64 (n64 x), .int .i64 41] w fun e w' => e = .returned (.int .u64 (n64 (rots 41 x))) ∧ w = w' := by
  have h := Lib.hid (turn41 x)
  go_enter Try.func69, Try.ntmps69
  go_wp2
  go_ret
  refine ⟨?_, rfl⟩
  rw [← h.out]
  exact congrArg (fun z => Ending.returned (.int .u64 (n64 z))) (or_eq (by decide) (shr_eq x _ 23 _ (by decide) rfl))
theorem rot35_any (x : UInt64) (w : World) : Calls Try.prog 69 #[.int .u64 (n64 x), .int .i64 (-29)] w fun e w' => e = .returned (.int .u64 (n64 (rots 35 x))) ∧ w = w' := by
  have h := Lib.hid (turn35 x)
  go_enter Try.func69, Try.ntmps69
  go_wp2
  go_ret
  refine ⟨?_, rfl⟩
  rw [← h.out]
  exact congrArg (fun z => Ending.returned (.int .u64 (n64 z))) (or_eq (by decide) (shr_eq x _ 29 _ (by decide) rfl))
theorem rot23_any (x : UInt64) (w : World) : Calls Try.prog 69 #[.int .u64 (n64 x), .int .i64 (-41)] w fun e w' => e = .returned (.int .u64 (n64 (rots 23 x))) ∧ w = w' := by
  have h := Lib.hid (turn23 x)
  go_enter Try.func69, Try.ntmps69
  go_wp2
  go_ret
  refine ⟨?_, rfl⟩
  rw [← h.out]
  exact congrArg (fun z => Ending.returned (.int .u64 (n64 z))) (or_eq (by decide) (shr_eq x _ 41 _ (by decide) rfl))
theorem turn_any (n : Nat) (x : UInt64) (w : World) (hn : n ≤ 64) : Calls Try.prog 62 #[.int .u64 (n64 x), .int .i64 (n : Int)] w fun e w' => e = .returned (.int .u64 (n64 (rots n x))) ∧ w = w' := by
  go_enter Try.func62, Try.ntmps62
  go_wp2
  go_loop [0, 5] (fun v i => ∃ k : Nat, k ≤ n ∧ v = .int .u64 (n64 (rots k x)) ∧ i = .int .i64 k) (fun _ i => n - (intOf i).toNat)
  case atStart => exact ⟨0, Nat.zero_le _, rfl, rfl⟩
  case round =>
    obtain ⟨k, hk, rfl, rfl⟩ := hrel
    by_cases h : k < n
    · have hm := Lib.hid (show rots (k + 1) x = rots k x * 2 + rots k x / 9223372036854775808 from rfl)
      generalize rots k x = y at *
      go_wp2
      go_round
      case rel => exact ⟨k + 1, by omega, by rw [hm.out], by go_num⟩
      case measure => simp [intOf]; omega
    · have hk' : k = n := by omega
      subst hk'
      go_wp2
      go_ret
      exact ⟨rfl, rfl⟩
theorem start_any (w : World) : Calls Try.prog 68 #[] w fun e w' => e = .returned (sumV start) ∧ Gr w w' := by
  go_enter Try.func68, Try.ntmps68
  go_wp2
  refine bodyPost_ret (v := sumV start) (by simp [results, Try.results68, go_sem]; decide) rfl ⟨rfl, (Gr.refl w).alloc _⟩
set_option maxRecDepth 100000 in
set_option maxHeartbeats 400000 in
theorem sround_any (s : St) (x : UInt64) (w : World) : Calls Try.prog 60 #[sumV s, .int .u64 (n64 x)] w fun e w' => e = .returned (sumV (round s x)) ∧ Gr w w' := by
  have hb0 := (Blk.new w 93 #[.int .u64 (n64 s.1), .int .u64 (n64 s.2)]).alloc (.cells #[.int .u64 0, .int .u64 0] 93)
  have hb1 := Blk.new (w.alloc (.cells #[.int .u64 (n64 s.1), .int .u64 (n64 s.2)] 93)) 93 #[.int .u64 0, .int .u64 0]
  have hg1 : Gr w ((w.alloc (.cells #[.int .u64 (n64 s.1), .int .u64 (n64 s.2)] 93)).alloc (.cells #[.int .u64 0, .int .u64 0] 93)) := ((Gr.refl w).alloc _).alloc _
  obtain ⟨y, hy⟩ : ∃ y, y = rots 29 ((s.1 ^^^ x) * K1) + s.2 := ⟨_, rfl⟩
  obtain ⟨z, hz⟩ : ∃ z, z = rots 41 ((s.2 + x) * K2) ^^^ y := ⟨_, rfl⟩
  rw [show round s x = (y, z) by rw [hz, hy]; rfl]
  replace hy := Lib.hid hy
  replace hz := Lib.hid hz
  go_enter Try.func60, Try.ntmps60
  go_wp2
  rw [World.size_alloc] at hb1
  generalize (w.alloc (.cells #[.int .u64 (n64 s.1), .int .u64 (n64 s.2)] 93)).alloc (.cells #[.int .u64 0, .int .u64 0] 93) = w1 at *
  have hlt : w.heap.size < w1.heap.size := hb0.lt
  have hc0 : w1.cell? ⟨w.heap.size, 0, none⟩ = some (.int .u64 (n64 s.1)) := hb0.cell 0
  have hc1 : w1.cell? ⟨w.heap.size, 1, none⟩ = some (.int .u64 (n64 s.2)) := hb0.cell 1
  refine region_grow (by kernel_rfl) (by kernel_rfl) ?_
  refine GW.p1 (.pointer (some ⟨w.heap.size, 0, none⟩)) rfl trivial (kn0 (t := 2) (c := .pointer (some ⟨w.heap.size, 0, none⟩)) (by kernel_rfl) rfl) (fun ρ w' hρ hg => by simp [execOp, hρ, go_sem]) ?_
  refine GW.ldAt ((n64 (s.1))) rfl trivial rfl Try.underlying29 (kn (t := 5) (j := 0) (by kernel_rfl)) (hc0) (by omega) ?_
  refine GW.mv rfl trivial (.inl rfl) (kn0 (t := 1) (c := .int .u64 (n64 (x))) (by kernel_rfl) rfl) (eqv_lasts _) ?_
  refine GW.bin (.int .u64 (n64 (s.1 ^^^ x))) rfl trivial rfl (kn (t := 6) (j := 1) (by kernel_rfl)) (kn (t := 7) (j := 2) (by kernel_rfl)) (fun w' => by simp [go_sem]) ?_
  refine GW.bin (.int .u64 (n64 ((s.1 ^^^ x) * K1))) rfl trivial rfl (kn (t := 8) (j := 3) (by kernel_rfl)) knc (fun w' => by simp [go_sem]) ?_
  refine GW.call2 (eqv (.int .u64 (n64 (rots 29 ((s.1 ^^^ x) * K1))))) rfl trivial rfl Try.func69 (by kernel_rfl) (by kernel_rfl) (eqv_lasts _) (kn (t := 9) (j := 4) (by kernel_rfl)) knc (fun v u w' hg hv hu => ?_) ?_
  · obtain rfl : v = _ := hv
    obtain rfl : u = _ := hu
    refine (rot29_any _ w').mono ?_
    rintro e w2 ⟨rfl, rfl⟩
    exact ⟨_, rfl, rfl, Gr.refl _⟩
  refine GW.p1 (.pointer (some ⟨w.heap.size, 1, none⟩)) rfl trivial (kn0 (t := 2) (c := .pointer (some ⟨w.heap.size, 0, none⟩)) (by kernel_rfl) rfl) (fun ρ w' hρ hg => by simp [execOp, hρ, go_sem]) ?_
  refine GW.ldAt ((n64 (s.2))) rfl trivial rfl Try.underlying29 (kn (t := 11) (j := 6) (by kernel_rfl)) (hc1) (by omega) ?_
  refine GW.bin (.int .u64 (n64 (rots 29 ((s.1 ^^^ x) * K1) + s.2))) rfl trivial rfl (kn (t := 10) (j := 5) (by kernel_rfl)) (kn (t := 12) (j := 7) (by kernel_rfl)) (fun w' => by simp [go_sem]) ?_
  refine GW.tail (m := 9) (by simp) (by kernel_rfl) (by kernel_rfl) (fun w' hg => ?_)
  intro v0 _ v1 _ v2 _ v3 _ v4 _ v5 _ v6 _ v7 _ v8 h8
  obtain rfl : v8 = (.int .u64 (n64 (rots 29 ((s.1 ^^^ x) * K1) + s.2))) := h8
  simp only [GFin, List.take_succ_cons, List.take_zero, List.drop_succ_cons, List.drop_zero, Act.put, List.setIfInBounds_toArray, List.set_cons_succ, List.set_cons_zero]
  have hg2 : Gr w w' := hg1.trans hg
  have hlt1 : w.heap.size + 1 < w1.heap.size := hb1.lt
  have hd0 := hb0.below hg hlt
  have hd1 := hb1.below hg hlt1
  have c0 := hd0.cell 0
  have f0 := hd0.frozen 0
  rw [← hy.out]
  have he0 : Blk (w'.setCell ⟨w.heap.size, 0, none⟩ (.int .u64 (n64 y))) w.heap.size 93 #[.int .u64 (n64 y), .int .u64 (n64 s.2)] := hd0.set_ 0 _
  have he1 := hd1.far (p := ⟨w.heap.size, 0, none⟩) (by show w.heap.size + 1 ≠ w.heap.size; omega) (.int .u64 (n64 y))
  have hg3 : Gr w (w'.setCell ⟨w.heap.size, 0, none⟩ (.int .u64 (n64 y))) := Below.setCell hg2 (p := ⟨w.heap.size, 0, none⟩) (Nat.le_refl _) _
  clear hg hg1 hg2 hb0 hb1 hd0 hd1
  go_wp2
  generalize w'.setCell ⟨w.heap.size, 0, none⟩ (.int .u64 (n64 y)) = w2 at *
  clear c0 f0 hc0 hc1 hlt hlt1
  have hlt : w.heap.size < w2.heap.size := he0.lt
  have hd0 : w2.cell? ⟨w.heap.size, 0, none⟩ = some (.int .u64 (n64 y)) := he0.cell 0
  have hd1 : w2.cell? ⟨w.heap.size, 1, none⟩ = some (.int .u64 (n64 s.2)) := he0.cell 1
  refine region_grow (by kernel_rfl) (by kernel_rfl) ?_
  refine GW.p1 (.pointer (some ⟨w.heap.size, 1, none⟩)) rfl trivial (kn0 (t := 2) (c := .pointer (some ⟨w.heap.size, 0, none⟩)) (by kernel_rfl) rfl) (fun ρ w' hρ hg => by simp [execOp, hρ, go_sem]) ?_
  refine GW.ldAt ((n64 (s.2))) rfl trivial rfl Try.underlying29 (kn (t := 15) (j := 0) (by kernel_rfl)) (hd1) (by omega) ?_
  refine GW.mv rfl trivial (.inl rfl) (kn0 (t := 1) (c := .int .u64 (n64 (x))) (by kernel_rfl) rfl) (eqv_lasts _) ?_
  refine GW.bin (.int .u64 (n64 (s.2 + x))) rfl trivial rfl (kn (t := 16) (j := 1) (by kernel_rfl)) (kn (t := 17) (j := 2) (by kernel_rfl)) (fun w' => by simp [go_sem]) ?_
  refine GW.bin (.int .u64 (n64 ((s.2 + x) * K2))) rfl trivial rfl (kn (t := 18) (j := 3) (by kernel_rfl)) knc (fun w' => by simp [go_sem]) ?_
  refine GW.call2 (eqv (.int .u64 (n64 (rots 41 ((s.2 + x) * K2))))) rfl trivial rfl Try.func69 (by kernel_rfl) (by kernel_rfl) (eqv_lasts _) (kn (t := 19) (j := 4) (by kernel_rfl)) knc (fun v u w' hg hv hu => ?_) ?_
  · obtain rfl : v = _ := hv
    obtain rfl : u = _ := hu
    refine (rot41_any _ w').mono ?_
    rintro e w2 ⟨rfl, rfl⟩
    exact ⟨_, rfl, rfl, Gr.refl _⟩
  refine GW.p1 (.pointer (some ⟨w.heap.size, 0, none⟩)) rfl trivial (kn0 (t := 2) (c := .pointer (some ⟨w.heap.size, 0, none⟩)) (by kernel_rfl) rfl) (fun ρ w' hρ hg => by simp [execOp, hρ, go_sem]) ?_
  refine GW.ldAt ((n64 (y))) rfl trivial rfl Try.underlying29 (kn (t := 21) (j := 6) (by kernel_rfl)) (hd0) (by omega) ?_
  refine GW.bin (.int .u64 (n64 (rots 41 ((s.2 + x) * K2) ^^^ y))) rfl trivial rfl (kn (t := 20) (j := 5) (by kernel_rfl)) (kn (t := 22) (j := 7) (by kernel_rfl)) (fun w' => by simp [go_sem]) ?_
  refine GW.tail (m := 9) (by simp) (by kernel_rfl) (by kernel_rfl) (fun w' hg => ?_)
  intro v0 _ v1 _ v2 _ v3 _ v4 _ v5 _ v6 _ v7 _ v8 h8
  obtain rfl : v8 = (.int .u64 (n64 (rots 41 ((s.2 + x) * K2) ^^^ y))) := h8
  simp only [GFin, List.take_succ_cons, List.take_zero, List.drop_succ_cons, List.drop_zero, Act.put, List.setIfInBounds_toArray, List.set_cons_succ, List.set_cons_zero]
  have hg4 : Gr w w' := hg3.trans hg
  have hlt1 : w.heap.size + 1 < w2.heap.size := he1.lt
  have hk0 := he0.below hg hlt
  have hk1 := he1.below hg hlt1
  have c1 := hk0.cell 1
  have f1 := hk0.frozen 1
  rw [← hz.out]
  have hm0 : Blk (w'.setCell ⟨w.heap.size, 1, none⟩ (.int .u64 (n64 z))) w.heap.size 93 #[.int .u64 (n64 y), .int .u64 (n64 z)] := hk0.set_ 1 _
  have hm1 := hk1.far (p := ⟨w.heap.size, 1, none⟩) (by show w.heap.size + 1 ≠ w.heap.size; omega) (.int .u64 (n64 z))
  have hg5 : Gr w (w'.setCell ⟨w.heap.size, 1, none⟩ (.int .u64 (n64 z))) := Below.setCell hg4 (p := ⟨w.heap.size, 1, none⟩) (Nat.le_refl _) _
  have q0 : (w'.setCell ⟨w.heap.size, 1, none⟩ (.int .u64 (n64 z))).cell? ⟨w.heap.size, 0, none⟩ = some (.int .u64 (n64 y)) := hm0.cell 0
  have q1 : (w'.setCell ⟨w.heap.size, 1, none⟩ (.int .u64 (n64 z))).cell? ⟨w.heap.size, 1, none⟩ = some (.int .u64 (n64 z)) := hm0.cell 1
  have q2 := hm1.cell 0
  have q3 := hm1.cell 1
  have q4 := hm1.frozen 0
  have q5 := hm1.frozen 1
  clear hg hg3 hg4 he0 he1 hd0 hd1 hk0 hk1
  have hm2 : Blk (((w'.setCell ⟨w.heap.size, 1, none⟩ (.int .u64 (n64 z))).setCell ⟨w.heap.size + 1, 0, none⟩ (.int .u64 (n64 y))).setCell ⟨w.heap.size + 1, 1, none⟩ (.int .u64 (n64 z))) (w.heap.size + 1) 93 #[.int .u64 (n64 y), .int .u64 (n64 z)] := (hm1.set_ 0 _).set_ 1 _
  have z0 := hm2.cell 0
  have z1 := hm2.cell 1
  have hgf := Below.setCell (Below.setCell hg5 (p := ⟨w.heap.size + 1, 0, none⟩) (Nat.le_succ _) (.int .u64 (n64 y))) (p := ⟨w.heap.size + 1, 1, none⟩) (Nat.le_succ _) (.int .u64 (n64 z))
  clear hm0 hm1 hm2 hg5
  go_wp2
  refine bodyPost_ret (v := sumV (y, z)) (by simp [results, Try.results60, go_sem, z0, z1]) rfl ⟨rfl, hgf⟩

theorem refStart_any (w : World) : Calls Try.prog 53 #[] w fun e w' => e = .returned (sumV start) ∧ Gr w w' := by
  go_enter Try.func53, Try.ntmps53
  go_wp2
  refine bodyPost_ret (v := sumV start) (by simp [results, Try.results53, go_sem]; decide) rfl ⟨rfl, (Gr.refl w).alloc _⟩
set_option maxRecDepth 100000 in
set_option maxHeartbeats 400000 in
theorem refRound_any (s : St) (x : UInt64) (w : World) : Calls Try.prog 54 #[sumV s, .int .u64 (n64 x)] w fun e w' => e = .returned (sumV (round s x)) ∧ Gr w w' := by
  obtain ⟨w1, hw1⟩ : ∃ w1, w1 = (w.alloc (.cells #[.int .u64 (n64 s.1), .int .u64 (n64 s.2)] 31)).alloc (.cells #[.int .u64 0, .int .u64 0] 31) := ⟨_, rfl⟩
  have hb0 := (Blk.new w 31 #[.int .u64 (n64 s.1), .int .u64 (n64 s.2)]).alloc (.cells #[.int .u64 0, .int .u64 0] 31)
  have hb1 := Blk.new (w.alloc (.cells #[.int .u64 (n64 s.1), .int .u64 (n64 s.2)] 31)) 31 #[.int .u64 0, .int .u64 0]
  rw [World.size_alloc] at hb1
  have hg1 : Gr w ((w.alloc (.cells #[.int .u64 (n64 s.1), .int .u64 (n64 s.2)] 31)).alloc (.cells #[.int .u64 0, .int .u64 0] 31)) := ((Gr.refl w).alloc _).alloc _
  rw [← hw1] at hb0 hb1 hg1
  have hw1' := Lib.hid hw1
  clear hw1
  obtain ⟨y, hy⟩ : ∃ y, y = rots 29 ((s.1 ^^^ x) * K1) + s.2 := ⟨_, rfl⟩
  obtain ⟨z, hz⟩ : ∃ z, z = rots 41 ((s.2 + x) * K2) ^^^ y := ⟨_, rfl⟩
  rw [show round s x = (y, z) by rw [hz, hy]; rfl]
  replace hy := Lib.hid hy
  go_enter Try.func54, Try.ntmps54
  replace hz := Lib.hid hz
  go_wp2
  rw [← hw1'.out]
  clear hw1'
  have hlt : w.heap.size < w1.heap.size := hb0.lt
  have hc0 : w1.cell? ⟨w.heap.size, 0, none⟩ = some (.int .u64 (n64 s.1)) := hb0.cell 0
  have hc1 : w1.cell? ⟨w.heap.size, 1, none⟩ = some (.int .u64 (n64 s.2)) := hb0.cell 1
  refine region_grow (by kernel_rfl) (by kernel_rfl) ?_
  refine GW.p1 (.pointer (some ⟨w.heap.size, 0, none⟩)) rfl trivial (kn0 (t := 2) (c := .pointer (some ⟨w.heap.size, 0, none⟩)) (by kernel_rfl) rfl) (fun ρ w' hρ hg => by simp [execOp, hρ, go_sem]) ?_
  refine GW.ldAt ((n64 (s.1))) rfl trivial rfl Try.underlying29 (kn (t := 7) (j := 0) (by kernel_rfl)) (hc0) (by omega) ?_
  refine GW.mv rfl trivial (.inl rfl) (kn0 (t := 1) (c := .int .u64 (n64 (x))) (by kernel_rfl) rfl) (eqv_lasts _) ?_
  refine GW.bin (.int .u64 (n64 (s.1 ^^^ x))) rfl trivial rfl (kn (t := 8) (j := 1) (by kernel_rfl)) (kn (t := 9) (j := 2) (by kernel_rfl)) (fun w' => by simp [go_sem]) ?_
  refine GW.bin (.int .u64 (n64 ((s.1 ^^^ x) * K1))) rfl trivial rfl (kn (t := 10) (j := 3) (by kernel_rfl)) knc (fun w' => by simp [go_sem]) ?_
  refine GW.call2 (eqv (.int .u64 (n64 (rots 29 ((s.1 ^^^ x) * K1))))) rfl trivial rfl Try.func62 (by kernel_rfl) (by kernel_rfl) (eqv_lasts _) (kn (t := 11) (j := 4) (by kernel_rfl)) knc (fun v u w' hg hv hu => ?_) ?_
  · obtain rfl : v = _ := hv
    obtain rfl : u = _ := hu
    refine (turn_any 29 _ w' (by omega)).mono ?_
    rintro e w2 ⟨rfl, rfl⟩
    exact ⟨_, rfl, rfl, Gr.refl _⟩
  refine GW.p1 (.pointer (some ⟨w.heap.size, 1, none⟩)) rfl trivial (kn0 (t := 2) (c := .pointer (some ⟨w.heap.size, 0, none⟩)) (by kernel_rfl) rfl) (fun ρ w' hρ hg => by simp [execOp, hρ, go_sem]) ?_
  refine GW.ldAt ((n64 (s.2))) rfl trivial rfl Try.underlying29 (kn (t := 13) (j := 6) (by kernel_rfl)) (hc1) (by omega) ?_
  refine GW.bin (.int .u64 (n64 (rots 29 ((s.1 ^^^ x) * K1) + s.2))) rfl trivial rfl (kn (t := 12) (j := 5) (by kernel_rfl)) (kn (t := 14) (j := 7) (by kernel_rfl)) (fun w' => by simp [go_sem]) ?_
  refine GW.mv rfl trivial (.inr rfl) (kn (t := 15) (j := 8) (by kernel_rfl)) (eqv_lasts _) ?_
  refine GW.done (by simp) (by kernel_rfl) (fun w' hg => ?_)
  intro v0 _ v1 _ v2 _ v3 _ v4 _ v5 _ v6 _ v7 _ v8 _ v9 h9
  obtain rfl : v9 = (.int .u64 (n64 (rots 29 ((s.1 ^^^ x) * K1) + s.2))) := h9
  simp only [GFin, Act.put, List.setIfInBounds_toArray, List.set_cons_succ, List.set_cons_zero]
  rw [← hy.out]
  have hg2 : Gr w w' := hg1.trans hg
  have hd0 := hb0.below hg hb0.lt
  have hd1 := hb1.below hg hb1.lt
  have e0 := hd0.cell 1
  have ht := Lib.hid (fun w => turn_any 41 ((s.2 + x) * K2) w (by omega))
  obtain ⟨q, hq⟩ : ∃ q, q = rots 41 ((s.2 + x) * K2) := ⟨_, rfl⟩
  have hz2 : z = q ^^^ y := by rw [hq]; exact hz.out
  rw [← hq] at ht
  replace hz2 := Lib.hid hz2
  have f0 := hd1.frozen 0
  have f1 := hd1.frozen 1
  have g0 := hd1.cell 0
  have g1 := hd1.cell 1
  have hm2 : Blk ((w'.setCell ⟨w.heap.size + 1, 0, none⟩ (.int .u64 (n64 y))).setCell ⟨w.heap.size + 1, 1, none⟩ (.int .u64 (n64 z))) (w.heap.size + 1) 31 #[.int .u64 (n64 y), .int .u64 (n64 z)] := (hd1.set_ 0 _).set_ 1 _
  have z0 := hm2.cell 0
  have z1 := hm2.cell 1
  have hgf := Below.setCell (Below.setCell hg2 (p := ⟨w.heap.size + 1, 0, none⟩) (Nat.le_succ _) (.int .u64 (n64 y))) (p := ⟨w.heap.size + 1, 1, none⟩) (Nat.le_succ _) (.int .u64 (n64 z))
  clear hg hg1 hg2 hb0 hb1 hd1 hd0 hm2 hc0 hc1 hz hq hy
  have hz3 : z = q ^^^ y := hz2.out
  clear hz2
  subst hz3
  go_wp2_with (go_at_call 62; refine (ht.out _).mono ?_; rintro e w2 ⟨rfl, rfl⟩)
  refine bodyPost_ret (v := sumV (y, q ^^^ y)) (by simp [results, Try.results54, go_sem, z0, z1]) rfl ⟨rfl, hgf⟩
end Mix
end Go.Proofs.Ytcibngbgcnnjnaa

