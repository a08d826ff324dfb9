/- The walks of patch.Fits and token.Copy. No condition but sizes. -/
import Derived.Test.YtgnogoghfendpaaPatAwake
import Derived.Test.YtgnogoghfendpaaMixEq
import Derived.Test.YtgnogoghfendpaaMixOf
set_option linter.unusedVariables false
set_option linter.unusedSimpArgs false
namespace Go.Proofs.Ytgnogoghfendpaa
open Go Go.RowKit W Bl Tk
namespace Pt
theorem fits_any (A : Option Addr) (c : Nat) (l : List UInt8) (s : Mix.St) (n : Int) (w : World) (hs : l.length ≤ 1000000) (hc : l.length ≤ c) (hm : c ≤ maxLen) (hr : RB w w.heap.size A l) :
    Calls Try.prog 15 #[Mix.sumV s, .int .i64 n, .slice A l.length c] w fun e w' => e = .returned (.bool (((l.length : Int) == n) && (Mix.of l == s))) ∧ Gr w w' := by
  have bx := Lib.hid (Blk.new w 43 #[.int .u64 (n64 s.1), .int .u64 (n64 s.2)])
  have g0 := Lib.hid ((Gr.refl w).alloc (.cells #[.int .u64 (n64 s.1), .int .u64 (n64 s.2)] 43))
  have r1 := Lib.hid ((hr.alloc (Nat.le_refl _) (.cells #[.int .u64 (n64 s.1), .int .u64 (n64 s.2)] 43)).more (by rw [World.size_alloc]; omega) : RB (w.alloc (.cells #[.int .u64 (n64 s.1), .int .u64 (n64 s.2)] 43)) (w.alloc (.cells #[.int .u64 (n64 s.1), .int .u64 (n64 s.2)] 43)).heap.size A l)
  have hof := Lib.hid (fun w (hr : RB w w.heap.size A l) => Mix.of_any A c l w (by omega) hc hr)
  have hmH := Lib.hid hm
  clear hr hm
  cases hq : ((l.length : Int) == n)
  · rw [Bool.false_and]
    have hq := Lib.hid hq
    go_enter Try.func15, Try.ntmps15
    go_wp2
    have hm := hmH.out
    have r1 := r1.out
    refine region_grow (by kernel_rfl) (by kernel_rfl) ?_
    refine GW.mv rfl trivial (.inl rfl) (kn0' (t := 2) (c := .slice A l.length c) (by kernel_rfl) rfl (isB_lasts _) (⟨_, _, rfl, hc, hm, r1⟩)) (isB_lasts _) ?_
    refine GW.lenB l rfl trivial rfl Try.underlying22 (kn (t := 7) (j := 0) (by kernel_rfl)) ?_
    refine GW.mv rfl trivial (.inl rfl) (kn0 (t := 1) (c := .int .i64 n) (by kernel_rfl) rfl) (eqv_lasts _) ?_
    refine GW.bin (.bool false) rfl trivial rfl (kn (t := 8) (j := 1) (by kernel_rfl)) (kn (t := 9) (j := 2) (by kernel_rfl)) (fun w' => by rw [← hq.out]; exact run_eql_int' _ _ _ _ _ w') ?_
    refine GW.mv rfl trivial (.inl rfl) (kn (t := 10) (j := 3) (by kernel_rfl)) (eqv_lasts _) ?_
    refine GW.skip rfl rfl (d := 11) (by kernel_rfl) (by kernel_rfl) (fun _ _ h => .inl h) ?_
    refine GW.skip rfl rfl (d := 11) (by kernel_rfl) (by kernel_rfl) (fun _ _ h => .inl h) ?_
    refine GW.skip rfl rfl (d := 11) (by kernel_rfl) (by kernel_rfl) (fun _ _ h => .inl h) ?_
    refine GW.skip rfl rfl (d := 11) (by kernel_rfl) (by kernel_rfl) (fun _ _ h => .inl h) ?_
    refine GW.pick (b := false) rfl trivial rfl (kn (t := 11) (j := 4) (by kernel_rfl)) (knc) (eqv_lasts _) ?_
    refine GW.mv rfl trivial (.inr rfl) (kn (t := 16) (j := 9) (by kernel_rfl)) (eqv_lasts _) ?_
    refine GW.done (by simp) (by kernel_rfl) (fun w' hg_ => ?_)
    intro v0 _ v1 _ v2 _ v3 _ v4 _ v5 _ v6 _ v7 _ v8 _ v9 _ v10 h10
    obtain rfl : v10 = (Value.bool false) := h10
    simp only [GFin, Act.put, List.setIfInBounds_toArray, List.set_cons_succ, List.set_cons_zero]
    have G1 := Lib.hid (Gr.trans g0.out hg_)
    clear hg_
    go_wp2
    go_ret
    exact ⟨rfl, G1.out⟩
  · rw [Bool.true_and]
    obtain ⟨r, hr0⟩ : ∃ r, (Mix.of l == s) = r := ⟨_, rfl⟩
    rw [hr0]
    have hr0 := Lib.hid hr0
    have hq := Lib.hid hq
    go_enter Try.func15, Try.ntmps15
    go_wp2
    have hm := hmH.out
    have r1 := r1.out
    refine region_grow (by kernel_rfl) (by kernel_rfl) ?_
    refine GW.mv rfl trivial (.inl rfl) (kn0' (t := 2) (c := .slice A l.length c) (by kernel_rfl) rfl (isB_lasts _) (⟨_, _, rfl, hc, hm, r1⟩)) (isB_lasts _) ?_
    refine GW.lenB l rfl trivial rfl Try.underlying22 (kn (t := 7) (j := 0) (by kernel_rfl)) ?_
    refine GW.mv rfl trivial (.inl rfl) (kn0 (t := 1) (c := .int .i64 n) (by kernel_rfl) rfl) (eqv_lasts _) ?_
    refine GW.bin (.bool true) rfl trivial rfl (kn (t := 8) (j := 1) (by kernel_rfl)) (kn (t := 9) (j := 2) (by kernel_rfl)) (fun w' => by rw [← hq.out]; exact run_eql_int' _ _ _ _ _ w') ?_
    refine GW.mv rfl trivial (.inl rfl) (kn (t := 10) (j := 3) (by kernel_rfl)) (eqv_lasts _) ?_
    refine GW.mv rfl ⟨11, by kernel_rfl, by kernel_rfl, fun _ _ h => h⟩ (.inl rfl) (kn0' (t := 2) (c := .slice A l.length c) (by kernel_rfl) rfl (isB_lasts _) (⟨_, _, rfl, hc, hm, r1⟩)) (isB_lasts _) ?_
    refine GW.call1 (eqv (Mix.sumV (Mix.of l))) rfl ⟨11, by kernel_rfl, by kernel_rfl, fun _ _ h => h⟩ rfl Try.func29 (by kernel_rfl) (by kernel_rfl) (eqv_lasts _) (kn (t := 12) (j := 5) (by kernel_rfl)) (fun v w' hg hv => ?_) ?_
    · obtain ⟨A7, c7, rfl, hc7, hm7, r7⟩ := hv
      refine (Mix.of_any A7 c7 l w' (by omega) hc7 r7).mono ?_
      rintro e w9 ⟨rfl, g9⟩
      exact ⟨_, rfl, rfl, g9⟩
    refine GW.ldRow rfl ⟨11, by kernel_rfl, by kernel_rfl, fun _ _ h => h⟩ rfl (kn0 (t := 3) (c := .pointer (some ⟨w.heap.size, 0, none⟩)) (by kernel_rfl) rfl) (bx.out) Try.underlying43 rfl (Mix.sumInfo _ _) ?_
    refine GW.bin (.bool r) rfl ⟨11, by kernel_rfl, by kernel_rfl, fun _ _ h => h⟩ rfl (kn (t := 13) (j := 6) (by kernel_rfl)) (kn (t := 14) (j := 7) (by kernel_rfl)) (fun w' => by rw [← hr0.out]; exact Mix.eql_sum _ _ _ _ w') ?_
    refine GW.pick (b := true) rfl trivial rfl (kn (t := 11) (j := 4) (by kernel_rfl)) (kn (t := 15) (j := 8) (by kernel_rfl)) (eqv_lasts _) ?_
    refine GW.mv rfl trivial (.inr rfl) (kn (t := 16) (j := 9) (by kernel_rfl)) (eqv_lasts _) ?_
    refine GW.done (by simp) (by kernel_rfl) (fun w' hg_ => ?_)
    intro v0 _ v1 _ v2 _ v3 _ v4 _ v5 _ v6 _ v7 _ v8 _ v9 _ v10 h10
    obtain rfl : v10 = (.bool r) := h10
    simp only [GFin, Act.put, List.setIfInBounds_toArray, List.set_cons_succ, List.set_cons_zero]
    have G1 := Lib.hid (Gr.trans g0.out hg_)
    clear hg_
    go_wp2
    go_ret
    exact ⟨rfl, G1.out⟩
set_option maxHeartbeats 2000000 in
theorem copy_any (f m : Int) (w : World) : Calls Try.prog 17 #[.int .i64 f, .int .i64 m] w fun e w' => e = .returned (tokV ⟨f, m, []⟩) ∧ Gr w w' := by
  go_enter Try.func17, Try.ntmps17
  go_wp2
  refine bodyPost_ret (v := tokV ⟨f, m, []⟩) (by simp [results, Try.results17, go_sem, tokV]) rfl ⟨rfl, (Gr.refl w).alloc _⟩
end Pt
end Go.Proofs.Ytgnogoghfendpaa

