/- The walks of patch.Apply and patch.Needs. No condition but sizes. -/
import Derived.Test.YtgnogoghfendpaaPatApply
set_option linter.unusedVariables false
set_option linter.unusedSimpArgs false
namespace Go.Proofs.Ytgnogoghfendpaa
open Go Go.RowKit W Bl Tk
namespace Pt
/-- Has it fewer blocks than a token asks for? -/
def short (n : Nat) (size : Int) (t : Tok) : Bool := right t && (decide (0 < t.m) && decide (count n (hold size) < t.f.toNat + t.m.toNat))
theorem short_code (old : List UInt8) (size : Int) (t : Tok) : ((pstep old size t).2 = 6) ↔ short old.length size t = true := by
  unfold short
  cases hr : right t
  · rw [pstep_bad hr]; simp
  · obtain ⟨p1, p2, p3, p4, p5⟩ := right_spec hr
    by_cases hm : t.m = 0
    · rw [pstep_lit hr hm]; simp [hm]
    · by_cases hc : count old.length (hold size) < t.f.toNat + t.m.toNat
      · rw [pstep_none hr hm hc]; simp [hc]; omega
      · rw [pstep_some hr hm hc]; simp; omega
set_option maxRecDepth 100000 in
set_option maxHeartbeats 4000000 in
theorem needs1_any (n k : Nat) (size : Int) (t : Tok) (w : World) (hs : k ≤ 1000000) (hf : Fit t) (b0 : Blk w n 3 #[.int .i64 k]) (b1 : Blk w (n + 1) 3 #[.int .i64 size]) :
    Calls Try.prog 26 #[tokV t, .pointer (some ⟨n, 0, none⟩), .pointer (some ⟨n + 1, 0, none⟩)] w fun e w' => e = .returned (.int .i64 ((if short k size t then 6 else 0 : Nat) : Int)) ∧ Gr w w' := by
  have hro := Lib.hid (fun w => right_any t w hf)
  have hcn := Lib.hid (fun w => count_any k size w (by omega))
  obtain ⟨r, hr⟩ : ∃ r, short k size t = r := ⟨_, rfl⟩
  rw [hr]
  have hr0 := hr
  unfold short at hr
  have hrs : right t = true → 0 ≤ t.f ∧ 0 ≤ t.m ∧ t.f ≤ 4097 ∧ t.f + t.m ≤ 4097 := fun h => by obtain ⟨p1, p2, p3, p4, _⟩ := right_spec h; exact ⟨p1, p2, p3, p4⟩
  obtain ⟨f, m, d⟩ := t
  have a0 := b0.alloc (.cells #[.int .i64 f, .int .i64 m, .string ⟨d.toArray⟩] 35)
  have a1 := b1.alloc (.cells #[.int .i64 f, .int .i64 m, .string ⟨d.toArray⟩] 35)
  have bx := Blk.new w 35 #[.int .i64 f, .int .i64 m, .string ⟨d.toArray⟩]
  have g0 := (Gr.refl w).alloc (.cells #[.int .i64 f, .int .i64 m, .string ⟨d.toArray⟩] 35)
  replace a0 := Lib.hid a0
  replace a1 := Lib.hid a1
  replace bx := Lib.hid bx
  replace g0 := Lib.hid g0
  clear b0 b1 hf hr0
  cases hrt : right ⟨f, m, d⟩
  · rw [hrt] at hro hr
    obtain rfl : false = r := hr
    clear hrs hrt
    go_enter Try.func26, Try.ntmps26
    go_wp2
    refine region_grow (by kernel_rfl) (by kernel_rfl) ?_
    refine GW.ldRow rfl trivial rfl (kn0 (t := 3) (c := .pointer (some ⟨w.heap.size, 0, none⟩)) (by kernel_rfl) rfl) (bx.out) Try.underlying35 rfl (tokInfo _ _ _) ?_
    refine GW.call1 (eqv (.bool false)) rfl trivial rfl Try.func22 (by kernel_rfl) (by kernel_rfl) (eqv_lasts _) (kn (t := 5) (j := 0) (by kernel_rfl)) (fun v w' hg hv => ?_) ?_
    · obtain rfl : v = _ := hv
      refine (hro.out w').mono ?_
      rintro e w9 ⟨rfl, g9⟩
      exact ⟨_, rfl, rfl, g9⟩
    refine GW.mv rfl trivial (.inl rfl) (kn (t := 6) (j := 1) (by kernel_rfl)) (eqv_lasts _) ?_
    refine GW.skip rfl rfl (d := 7) (by kernel_rfl) (by kernel_rfl) (fun _ _ h => .inl h) ?_
    refine GW.skip rfl rfl (d := 7) (by kernel_rfl) (by kernel_rfl) (fun _ _ h => .inl h) ?_
    refine GW.skip rfl rfl (d := 7) (by kernel_rfl) (by kernel_rfl) (fun _ _ h => .inl h) ?_
    refine GW.pick (b := false) rfl trivial rfl (kn (t := 7) (j := 2) (by kernel_rfl)) (knc) (eqv_lasts _) ?_
    refine GW.mv rfl trivial (.inl rfl) (kn (t := 11) (j := 6) (by kernel_rfl)) (eqv_lasts _) ?_
    refine GW.skip rfl rfl (d := 12) (by kernel_rfl) (by kernel_rfl) (fun _ _ h => .inl h) ?_
    refine GW.skip rfl rfl (d := 12) (by kernel_rfl) (by kernel_rfl) (fun _ _ h => .inl h) ?_
    refine GW.skip rfl rfl (d := 12) (by kernel_rfl) (by kernel_rfl) (fun _ _ h => .inl h) ?_
    refine GW.skip rfl rfl (d := 12) (by kernel_rfl) (by kernel_rfl) (fun _ _ h => .inl h) ?_
    refine GW.skip rfl rfl (d := 12) (by kernel_rfl) (by kernel_rfl) (fun _ _ h => .inl h) ?_
    refine GW.skip rfl rfl (d := 12) (by kernel_rfl) (by kernel_rfl) (fun _ _ h => .inl h) ?_
    refine GW.skip rfl rfl (d := 12) (by kernel_rfl) (by kernel_rfl) (fun _ _ h => .inl h) ?_
    refine GW.skip rfl rfl (d := 12) (by kernel_rfl) (by kernel_rfl) (fun _ _ h => .inl h) ?_
    refine GW.skip rfl rfl (d := 12) (by kernel_rfl) (by kernel_rfl) (fun _ _ h => .inl h) ?_
    refine GW.pick (b := false) rfl trivial rfl (kn (t := 12) (j := 7) (by kernel_rfl)) (knc) (eqv_lasts _) ?_
    refine GW.done (by simp) (by kernel_rfl) (fun w' hg_ => ?_)
    intro v0 _ v1 _ v2 _ v3 _ v4 _ v5 _ v6 _ v7 _ v8 _ v9 _ v10 _ v11 _ v12 _ v13 _ v14 _ v15 _ v16 _ v17 h17
    obtain rfl : v17 = (Value.bool false) := h17
    simp only [GFin, Act.put, List.setIfInBounds_toArray, List.set_cons_succ, List.set_cons_zero]
    have G2 := Lib.hid (Gr.trans g0.out hg_)
    clear hg_ a0 a1 bx g0 hro hcn
    go_wp2
    go_ret
    exact ⟨rfl, G2.out⟩
  · rw [hrt] at hro hr
    obtain ⟨p1, p2, p3, p4⟩ := hrs hrt
    simp only [Bool.true_and] at hr p1 p2 p3 p4
    by_cases hm : 0 < m
    · rw [decide_eq_true hm, Bool.true_and] at hr
      have hmN : m = (m.toNat : Int) := by omega
      have hfN : f = (f.toNat : Int) := by omega
      have hq : Hid (decide ((count k (hold size) : Int) < f + m) = r) := Lib.hid (by rw [← hr]; exact decide_eq_decide.2 (by omega))
      generalize count k (hold size) = cn at *
      clear hr hmN hfN hrs hrt
      go_enter Try.func26, Try.ntmps26
      go_wp2
      refine region_grow (by kernel_rfl) (by kernel_rfl) ?_
      refine GW.ldRow rfl trivial rfl (kn0 (t := 3) (c := .pointer (some ⟨w.heap.size, 0, none⟩)) (by kernel_rfl) rfl) (bx.out) Try.underlying35 rfl (tokInfo _ _ _) ?_
      refine GW.call1 (eqv (.bool true)) rfl trivial rfl Try.func22 (by kernel_rfl) (by kernel_rfl) (eqv_lasts _) (kn (t := 5) (j := 0) (by kernel_rfl)) (fun v w' hg hv => ?_) ?_
      · obtain rfl : v = _ := hv
        refine (hro.out w').mono ?_
        rintro e w9 ⟨rfl, g9⟩
        exact ⟨_, rfl, rfl, g9⟩
      refine GW.mv rfl trivial (.inl rfl) (kn (t := 6) (j := 1) (by kernel_rfl)) (eqv_lasts _) ?_
      refine GW.p1 (.pointer (some ⟨w.heap.size, 1, none⟩)) rfl ⟨7, by kernel_rfl, by kernel_rfl, fun _ _ h => h⟩ (kn0 (t := 3) (c := .pointer (some ⟨w.heap.size, 0, none⟩)) (by kernel_rfl) rfl) (fun ρ w' hρ hg => by simp [execOp, hρ, go_sem]) ?_
      refine GW.p1 (.int .i64 m) rfl ⟨7, by kernel_rfl, by kernel_rfl, fun _ _ h => h⟩ (kn (t := 8) (j := 3) (by kernel_rfl)) (fun ρ w' hρ hg => by simp [execOp, hρ, go_sem, (hg.cell (p := ⟨w.heap.size, 1, none⟩) bx.out.lt).trans (bx.out.cell 1)]) ?_
      refine GW.bin (.bool true) rfl ⟨7, by kernel_rfl, by kernel_rfl, fun _ _ h => h⟩ rfl (kn (t := 9) (j := 4) (by kernel_rfl)) knc (fun w' => by simp [go_sem, hm]) ?_
      refine GW.pick (b := true) rfl trivial rfl (kn (t := 7) (j := 2) (by kernel_rfl)) (kn (t := 10) (j := 5) (by kernel_rfl)) (eqv_lasts _) ?_
      refine GW.mv rfl trivial (.inl rfl) (kn (t := 11) (j := 6) (by kernel_rfl)) (eqv_lasts _) ?_
      refine GW.p1 (.pointer (some ⟨w.heap.size, 0, none⟩)) rfl ⟨12, by kernel_rfl, by kernel_rfl, fun _ _ h => h⟩ (kn0 (t := 3) (c := .pointer (some ⟨w.heap.size, 0, none⟩)) (by kernel_rfl) rfl) (fun ρ w' hρ hg => by simp [execOp, hρ, go_sem]) ?_
      refine GW.p1 (.int .i64 f) rfl ⟨12, by kernel_rfl, by kernel_rfl, fun _ _ h => h⟩ (kn (t := 13) (j := 8) (by kernel_rfl)) (fun ρ w' hρ hg => by simp [execOp, hρ, go_sem, (hg.cell (p := ⟨w.heap.size, 0, none⟩) bx.out.lt).trans (bx.out.cell 0)]) ?_
      refine GW.p1 (.pointer (some ⟨w.heap.size, 1, none⟩)) rfl ⟨12, by kernel_rfl, by kernel_rfl, fun _ _ h => h⟩ (kn0 (t := 3) (c := .pointer (some ⟨w.heap.size, 0, none⟩)) (by kernel_rfl) rfl) (fun ρ w' hρ hg => by simp [execOp, hρ, go_sem]) ?_
      refine GW.p1 (.int .i64 m) rfl ⟨12, by kernel_rfl, by kernel_rfl, fun _ _ h => h⟩ (kn (t := 15) (j := 10) (by kernel_rfl)) (fun ρ w' hρ hg => by simp [execOp, hρ, go_sem, (hg.cell (p := ⟨w.heap.size, 1, none⟩) bx.out.lt).trans (bx.out.cell 1)]) ?_
      refine GW.bin (.int .i64 (f + m)) rfl ⟨12, by kernel_rfl, by kernel_rfl, fun _ _ h => h⟩ rfl (kn (t := 14) (j := 9) (by kernel_rfl)) (kn (t := 16) (j := 11) (by kernel_rfl)) (fun w' => by simp [go_sem]; exact IntWalk.i64_in _ (by omega)) ?_
      refine GW.p1 (.int .i64 (k : Int)) rfl ⟨12, by kernel_rfl, by kernel_rfl, fun _ _ h => h⟩ (kn0 (t := 1) (c := .pointer (some ⟨n, 0, none⟩)) (by kernel_rfl) rfl) (fun ρ w' hρ hg => by simp [execOp, hρ, go_sem, (hg.cell (p := ⟨n, 0, none⟩) a0.out.lt).trans (a0.out.cell 0)]) ?_
      refine GW.p1 (.int .i64 size) rfl ⟨12, by kernel_rfl, by kernel_rfl, fun _ _ h => h⟩ (kn0 (t := 2) (c := .pointer (some ⟨n + 1, 0, none⟩)) (by kernel_rfl) rfl) (fun ρ w' hρ hg => by simp [execOp, hρ, go_sem, (hg.cell (p := ⟨n + 1, 0, none⟩) a1.out.lt).trans (a1.out.cell 0)]) ?_
      refine GW.call2 (eqv (.int .i64 (cn : Int))) rfl ⟨12, by kernel_rfl, by kernel_rfl, fun _ _ h => h⟩ rfl Try.func23 (by kernel_rfl) (by kernel_rfl) (eqv_lasts _) (kn (t := 18) (j := 13) (by kernel_rfl)) (kn (t := 19) (j := 14) (by kernel_rfl)) (fun v u w' hg hv hu => ?_) ?_
      · obtain rfl : v = _ := hv
        obtain rfl : u = _ := hu
        refine (hcn.out w').mono ?_
        rintro e w9 ⟨rfl, rfl⟩
        exact ⟨_, rfl, rfl, Gr.refl _⟩
      refine GW.bin (.bool r) rfl ⟨12, by kernel_rfl, by kernel_rfl, fun _ _ h => h⟩ rfl (kn (t := 17) (j := 12) (by kernel_rfl)) (kn (t := 20) (j := 15) (by kernel_rfl)) (fun w' => by rw [← hq.out]; simp [go_sem]) ?_
      refine GW.pick (b := true) rfl trivial rfl (kn (t := 12) (j := 7) (by kernel_rfl)) (kn (t := 21) (j := 16) (by kernel_rfl)) (eqv_lasts _) ?_
      refine GW.done (by simp) (by kernel_rfl) (fun w' hg_ => ?_)
      intro v0 _ v1 _ v2 _ v3 _ v4 _ v5 _ v6 _ v7 _ v8 _ v9 _ v10 _ v11 _ v12 _ v13 _ v14 _ v15 _ v16 _ v17 h17
      obtain rfl : v17 = (.bool r) := h17
      simp only [GFin, Act.put, List.setIfInBounds_toArray, List.set_cons_succ, List.set_cons_zero]
      have G2 := Lib.hid (Gr.trans g0.out hg_)
      clear hg_ a0 a1 bx g0 hro hcn hq
      cases r with
      | true =>
        go_wp2
        go_ret
        exact ⟨rfl, G2.out⟩
      | false =>
        go_wp2
        go_ret
        exact ⟨rfl, G2.out⟩
    · rw [decide_eq_false hm, Bool.false_and] at hr
      obtain rfl : false = r := hr
      clear hrs hrt
      go_enter Try.func26, Try.ntmps26
      go_wp2
      refine region_grow (by kernel_rfl) (by kernel_rfl) ?_
      refine GW.ldRow rfl trivial rfl (kn0 (t := 3) (c := .pointer (some ⟨w.heap.size, 0, none⟩)) (by kernel_rfl) rfl) (bx.out) Try.underlying35 rfl (tokInfo _ _ _) ?_
      refine GW.call1 (eqv (.bool true)) rfl trivial rfl Try.func22 (by kernel_rfl) (by kernel_rfl) (eqv_lasts _) (kn (t := 5) (j := 0) (by kernel_rfl)) (fun v w' hg hv => ?_) ?_
      · obtain rfl : v = _ := hv
        refine (hro.out w').mono ?_
        rintro e w9 ⟨rfl, g9⟩
        exact ⟨_, rfl, rfl, g9⟩
      refine GW.mv rfl trivial (.inl rfl) (kn (t := 6) (j := 1) (by kernel_rfl)) (eqv_lasts _) ?_
      refine GW.p1 (.pointer (some ⟨w.heap.size, 1, none⟩)) rfl ⟨7, by kernel_rfl, by kernel_rfl, fun _ _ h => h⟩ (kn0 (t := 3) (c := .pointer (some ⟨w.heap.size, 0, none⟩)) (by kernel_rfl) rfl) (fun ρ w' hρ hg => by simp [execOp, hρ, go_sem]) ?_
      refine GW.p1 (.int .i64 m) rfl ⟨7, by kernel_rfl, by kernel_rfl, fun _ _ h => h⟩ (kn (t := 8) (j := 3) (by kernel_rfl)) (fun ρ w' hρ hg => by simp [execOp, hρ, go_sem, (hg.cell (p := ⟨w.heap.size, 1, none⟩) bx.out.lt).trans (bx.out.cell 1)]) ?_
      refine GW.bin (.bool false) rfl ⟨7, by kernel_rfl, by kernel_rfl, fun _ _ h => h⟩ rfl (kn (t := 9) (j := 4) (by kernel_rfl)) knc (fun w' => by simp [go_sem, hm]) ?_
      refine GW.pick (b := true) rfl trivial rfl (kn (t := 7) (j := 2) (by kernel_rfl)) (kn (t := 10) (j := 5) (by kernel_rfl)) (eqv_lasts _) ?_
      refine GW.mv rfl trivial (.inl rfl) (kn (t := 11) (j := 6) (by kernel_rfl)) (eqv_lasts _) ?_
      refine GW.skip rfl rfl (d := 12) (by kernel_rfl) (by kernel_rfl) (fun _ _ h => .inl h) ?_
      refine GW.skip rfl rfl (d := 12) (by kernel_rfl) (by kernel_rfl) (fun _ _ h => .inl h) ?_
      refine GW.skip rfl rfl (d := 12) (by kernel_rfl) (by kernel_rfl) (fun _ _ h => .inl h) ?_
      refine GW.skip rfl rfl (d := 12) (by kernel_rfl) (by kernel_rfl) (fun _ _ h => .inl h) ?_
      refine GW.skip rfl rfl (d := 12) (by kernel_rfl) (by kernel_rfl) (fun _ _ h => .inl h) ?_
      refine GW.skip rfl rfl (d := 12) (by kernel_rfl) (by kernel_rfl) (fun _ _ h => .inl h) ?_
      refine GW.skip rfl rfl (d := 12) (by kernel_rfl) (by kernel_rfl) (fun _ _ h => .inl h) ?_
      refine GW.skip rfl rfl (d := 12) (by kernel_rfl) (by kernel_rfl) (fun _ _ h => .inl h) ?_
      refine GW.skip rfl rfl (d := 12) (by kernel_rfl) (by kernel_rfl) (fun _ _ h => .inl h) ?_
      refine GW.pick (b := false) rfl trivial rfl (kn (t := 12) (j := 7) (by kernel_rfl)) (knc) (eqv_lasts _) ?_
      refine GW.done (by simp) (by kernel_rfl) (fun w' hg_ => ?_)
      intro v0 _ v1 _ v2 _ v3 _ v4 _ v5 _ v6 _ v7 _ v8 _ v9 _ v10 _ v11 _ v12 _ v13 _ v14 _ v15 _ v16 _ v17 h17
      obtain rfl : v17 = (Value.bool false) := h17
      simp only [GFin, Act.put, List.setIfInBounds_toArray, List.set_cons_succ, List.set_cons_zero]
      have G2 := Lib.hid (Gr.trans g0.out hg_)
      clear hg_ a0 a1 bx g0 hro hcn
      go_wp2
      go_ret
      exact ⟨rfl, G2.out⟩
end Pt
end Go.Proofs.Ytgnogoghfendpaa

