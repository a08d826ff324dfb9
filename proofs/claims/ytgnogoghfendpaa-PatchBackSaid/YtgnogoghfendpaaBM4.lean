/- Texts that the law rests on, merged. No condition. -/
import Derived.Test.YtgnogoghfendpaaBM1
import Derived.Test.YtgnogoghfendpaaBM2
import Derived.Test.YtgnogoghfendpaaBM3
import Derived.RangeFuncNested
import Derived.RangeFuncBound
import Derived.RangeFuncCalls
import Derived.RangeFuncLeaves
import Derived.Shelf.Abstract
import Derived.Shelf.RegionOpen
import Derived.WalkKit
import Derived.OwnWalkIn
import Derived.TacticsInMore
import Derived.LoopNIn
import Derived.LoopIn
import Derived.IntWalk
import Derived.BigQuiet
import Derived.Scope
import Derived.Laws.MakeOwn
set_option linter.unusedVariables false
set_option linter.unusedSimpArgs false
namespace Go.Proofs.Ytgnogoghfendpaa
open Go Go.RowKit W Bl Tk
namespace Pt
/-- Has it fewer blocks than a token asks for? -/
def short (n : Nat) (size : Int) (t : Tok) : Bool := right t && (decide (0 < t.m) && decide (count n (hold size) < t.f.toNat + t.m.toNat))
theorem short_code (old : List UInt8) (size : Int) (t : Tok) : ((pstep old size t).2 = 6) ↔ short old.length size t = true := by
  unfold short
  cases hr : right t
  · rw [pstep_bad hr]; simp
  · obtain ⟨p1, p2, p3, p4, p5⟩ := right_spec hr
    by_cases hm : t.m = 0
    · rw [pstep_lit hr hm]; simp [hm]
    · by_cases hc : count old.length (hold size) < t.f.toNat + t.m.toNat
      · rw [pstep_none hr hm hc]; simp [hc]; omega
      · rw [pstep_some hr hm hc]; simp; omega
set_option maxRecDepth 100000 in
set_option maxHeartbeats 4000000 in
theorem needs1_any (n k : Nat) (size : Int) (t : Tok) (w : World) (hs : k ≤ 1000000) (hf : Fit t) (b0 : Blk w n 3 #[.int .i64 k]) (b1 : Blk w (n + 1) 3 #[.int .i64 size]) :
    Calls Try.prog 26 #[tokV t, .pointer (some ⟨n, 0, none⟩), .pointer (some ⟨n + 1, 0, none⟩)] w fun e w' => e = .returned (.int .i64 ((if short k size t then 6 else 0 : Nat) : Int)) ∧ Gr w w' := by
  have hro := Lib.hid (fun w => right_any t w hf)
  have hcn := Lib.hid (fun w => count_any k size w (by omega))
  obtain ⟨r, hr⟩ : ∃ r, short k size t = r := ⟨_, rfl⟩
  rw [hr]
  have hr0 := hr
  unfold short at hr
  have hrs : right t = true → 0 ≤ t.f ∧ 0 ≤ t.m ∧ t.f ≤ 4097 ∧ t.f + t.m ≤ 4097 := fun h => by obtain ⟨p1, p2, p3, p4, _⟩ := right_spec h; exact ⟨p1, p2, p3, p4⟩
  obtain ⟨f, m, d⟩ := t
  have a0 := b0.alloc (.cells #[.int .i64 f, .int .i64 m, .string ⟨d.toArray⟩] 35)
  have a1 := b1.alloc (.cells #[.int .i64 f, .int .i64 m, .string ⟨d.toArray⟩] 35)
  have bx := Blk.new w 35 #[.int .i64 f, .int .i64 m, .string ⟨d.toArray⟩]
  have g0 := (Gr.refl w).alloc (.cells #[.int .i64 f, .int .i64 m, .string ⟨d.toArray⟩] 35)
  replace a0 := Lib.hid a0
  replace a1 := Lib.hid a1
  replace bx := Lib.hid bx
  replace g0 := Lib.hid g0
  clear b0 b1 hf hr0
  cases hrt : right ⟨f, m, d⟩
  · rw [hrt] at hro hr
    obtain rfl : false = r := hr
    clear hrs hrt
    go_enter Try.func26, Try.ntmps26
    go_wp2
    refine region_grow (by kernel_rfl) (by kernel_rfl) ?_
    refine GW.ldRow rfl trivial rfl (kn0 (t := 3) (c := .pointer (some ⟨w.heap.size, 0, none⟩)) (by kernel_rfl) rfl) (bx.out) Try.underlying35 rfl (tokInfo _ _ _) ?_
    refine GW.call1 (eqv (.bool false)) rfl trivial rfl Try.func22 (by kernel_rfl) (by kernel_rfl) (eqv_lasts _) (kn (t := 5) (j := 0) (by kernel_rfl)) (fun v w' hg hv => ?_) ?_
    · obtain rfl : v = _ := hv
      refine (hro.out w').mono ?_
      rintro e w9 ⟨rfl, g9⟩
      exact ⟨_, rfl, rfl, g9⟩
    refine GW.mv rfl trivial (.inl rfl) (kn (t := 6) (j := 1) (by kernel_rfl)) (eqv_lasts _) ?_
    refine GW.skip rfl rfl (d := 7) (by kernel_rfl) (by kernel_rfl) (fun _ _ h => .inl h) ?_
    refine GW.skip rfl rfl (d := 7) (by kernel_rfl) (by kernel_rfl) (fun _ _ h => .inl h) ?_
    refine GW.skip rfl rfl (d := 7) (by kernel_rfl) (by kernel_rfl) (fun _ _ h => .inl h) ?_
    refine GW.pick (b := false) rfl trivial rfl (kn (t := 7) (j := 2) (by kernel_rfl)) (knc) (eqv_lasts _) ?_
    refine GW.mv rfl trivial (.inl rfl) (kn (t := 11) (j := 6) (by kernel_rfl)) (eqv_lasts _) ?_
    refine GW.skip rfl rfl (d := 12) (by kernel_rfl) (by kernel_rfl) (fun _ _ h => .inl h) ?_
    refine GW.skip rfl rfl (d := 12) (by kernel_rfl) (by kernel_rfl) (fun _ _ h => .inl h) ?_
    refine GW.skip rfl rfl (d := 12) (by kernel_rfl) (by kernel_rfl) (fun _ _ h => .inl h) ?_
    refine GW.skip rfl rfl (d := 12) (by kernel_rfl) (by kernel_rfl) (fun _ _ h => .inl h) ?_
    refine GW.skip rfl rfl (d := 12) (by kernel_rfl) (by kernel_rfl) (fun _ _ h => .inl h) ?_
    refine GW.skip rfl rfl (d := 12) (by kernel_rfl) (by kernel_rfl) (fun _ _ h => .inl h) ?_
    refine GW.skip rfl rfl (d := 12) (by kernel_rfl) (by kernel_rfl) (fun _ _ h => .inl h) ?_
    refine GW.skip rfl rfl (d := 12) (by kernel_rfl) (by kernel_rfl) (fun _ _ h => .inl h) ?_
    refine GW.skip rfl rfl (d := 12) (by kernel_rfl) (by kernel_rfl) (fun _ _ h => .inl h) ?_
    refine GW.pick (b := false) rfl trivial rfl (kn (t := 12) (j := 7) (by kernel_rfl)) (knc) (eqv_lasts _) ?_
    refine GW.done (by simp) (by kernel_rfl) (fun w' hg_ => ?_)
    intro v0 _ v1 _ v2 _ v3 _ v4 _ v5 _ v6 _ v7 _ v8 _ v9 _ v10 _ v11 _ v12 _ v13 _ v14 _ v15 _ v16 _ v17 h17
    obtain rfl : v17 = (Value.bool false) := h17
    simp only [GFin, Act.put, List.setIfInBounds_toArray, List.set_cons_succ, List.set_cons_zero]
    have G2 := Lib.hid (Gr.trans g0.out hg_)
    clear hg_ a0 a1 bx g0 hro hcn
    go_wp2
    go_ret
    exact ⟨rfl, G2.out⟩
  · rw [hrt] at hro hr
    obtain ⟨p1, p2, p3, p4⟩ := hrs hrt
    simp only [Bool.true_and] at hr p1 p2 p3 p4
    by_cases hm : 0 < m
    · rw [decide_eq_true hm, Bool.true_and] at hr
      have hmN : m = (m.toNat : Int) := by omega
      have hfN : f = (f.toNat : Int) := by omega
      have hq : Hid (decide ((count k (hold size) : Int) < f + m) = r) := Lib.hid (by rw [← hr]; exact decide_eq_decide.2 (by omega))
      generalize count k (hold size) = cn at *
      clear hr hmN hfN hrs hrt
      go_enter Try.func26, Try.ntmps26
      go_wp2
      refine region_grow (by kernel_rfl) (by kernel_rfl) ?_
      refine GW.ldRow rfl trivial rfl (kn0 (t := 3) (c := .pointer (some ⟨w.heap.size, 0, none⟩)) (by kernel_rfl) rfl) (bx.out) Try.underlying35 rfl (tokInfo _ _ _) ?_
      refine GW.call1 (eqv (.bool true)) rfl trivial rfl Try.func22 (by kernel_rfl) (by kernel_rfl) (eqv_lasts _) (kn (t := 5) (j := 0) (by kernel_rfl)) (fun v w' hg hv => ?_) ?_
      · obtain rfl : v = _ := hv
        refine (hro.out w').mono ?_
        rintro e w9 ⟨rfl, g9⟩
        exact ⟨_, rfl, rfl, g9⟩
      refine GW.mv rfl trivial (.inl rfl) (kn (t := 6) (j := 1) (by kernel_rfl)) (eqv_lasts _) ?_
      refine GW.p1 (.pointer (some ⟨w.heap.size, 1, none⟩)) rfl ⟨7, by kernel_rfl, by kernel_rfl, fun _ _ h => h⟩ (kn0 (t := 3) (c := .pointer (some ⟨w.heap.size, 0, none⟩)) (by kernel_rfl) rfl) (fun ρ w' hρ hg => by simp [execOp, hρ, go_sem]) ?_
      refine GW.p1 (.int .i64 m) rfl ⟨7, by kernel_rfl, by kernel_rfl, fun _ _ h => h⟩ (kn (t := 8) (j := 3) (by kernel_rfl)) (fun ρ w' hρ hg => by simp [execOp, hρ, go_sem, (hg.cell (p := ⟨w.heap.size, 1, none⟩) bx.out.lt).trans (bx.out.cell 1)]) ?_
      refine GW.bin (.bool true) rfl ⟨7, by kernel_rfl, by kernel_rfl, fun _ _ h => h⟩ rfl (kn (t := 9) (j := 4) (by kernel_rfl)) knc (fun w' => by simp [go_sem, hm]) ?_
      refine GW.pick (b := true) rfl trivial rfl (kn (t := 7) (j := 2) (by kernel_rfl)) (kn (t := 10) (j := 5) (by kernel_rfl)) (eqv_lasts _) ?_
      refine GW.mv rfl trivial (.inl rfl) (kn (t := 11) (j := 6) (by kernel_rfl)) (eqv_lasts _) ?_
      refine GW.p1 (.pointer (some ⟨w.heap.size, 0, none⟩)) rfl ⟨12, by kernel_rfl, by kernel_rfl, fun _ _ h => h⟩ (kn0 (t := 3) (c := .pointer (some ⟨w.heap.size, 0, none⟩)) (by kernel_rfl) rfl) (fun ρ w' hρ hg => by simp [execOp, hρ, go_sem]) ?_
      refine GW.p1 (.int .i64 f) rfl ⟨12, by kernel_rfl, by kernel_rfl, fun _ _ h => h⟩ (kn (t := 13) (j := 8) (by kernel_rfl)) (fun ρ w' hρ hg => by simp [execOp, hρ, go_sem, (hg.cell (p := ⟨w.heap.size, 0, none⟩) bx.out.lt).trans (bx.out.cell 0)]) ?_
      refine GW.p1 (.pointer (some ⟨w.heap.size, 1, none⟩)) rfl ⟨12, by kernel_rfl, by kernel_rfl, fun _ _ h => h⟩ (kn0 (t := 3) (c := .pointer (some ⟨w.heap.size, 0, none⟩)) (by kernel_rfl) rfl) (fun ρ w' hρ hg => by simp [execOp, hρ, go_sem]) ?_
      refine GW.p1 (.int .i64 m) rfl ⟨12, by kernel_rfl, by kernel_rfl, fun _ _ h => h⟩ (kn (t := 15) (j := 10) (by kernel_rfl)) (fun ρ w' hρ hg => by simp [execOp, hρ, go_sem, (hg.cell (p := ⟨w.heap.size, 1, none⟩) bx.out.lt).trans (bx.out.cell 1)]) ?_
      refine GW.bin (.int .i64 (f + m)) rfl ⟨12, by kernel_rfl, by kernel_rfl, fun _ _ h => h⟩ rfl (kn (t := 14) (j := 9) (by kernel_rfl)) (kn (t := 16) (j := 11) (by kernel_rfl)) (fun w' => by simp [go_sem]; exact IntWalk.i64_in _ (by omega)) ?_
      refine GW.p1 (.int .i64 (k : Int)) rfl ⟨12, by kernel_rfl, by kernel_rfl, fun _ _ h => h⟩ (kn0 (t := 1) (c := .pointer (some ⟨n, 0, none⟩)) (by kernel_rfl) rfl) (fun ρ w' hρ hg => by simp [execOp, hρ, go_sem, (hg.cell (p := ⟨n, 0, none⟩) a0.out.lt).trans (a0.out.cell 0)]) ?_
      refine GW.p1 (.int .i64 size) rfl ⟨12, by kernel_rfl, by kernel_rfl, fun _ _ h => h⟩ (kn0 (t := 2) (c := .pointer (some ⟨n + 1, 0, none⟩)) (by kernel_rfl) rfl) (fun ρ w' hρ hg => by simp [execOp, hρ, go_sem, (hg.cell (p := ⟨n + 1, 0, none⟩) a1.out.lt).trans (a1.out.cell 0)]) ?_
      refine GW.call2 (eqv (.int .i64 (cn : Int))) rfl ⟨12, by kernel_rfl, by kernel_rfl, fun _ _ h => h⟩ rfl Try.func23 (by kernel_rfl) (by kernel_rfl) (eqv_lasts _) (kn (t := 18) (j := 13) (by kernel_rfl)) (kn (t := 19) (j := 14) (by kernel_rfl)) (fun v u w' hg hv hu => ?_) ?_
      · obtain rfl : v = _ := hv
        obtain rfl : u = _ := hu
        refine (hcn.out w').mono ?_
        rintro e w9 ⟨rfl, rfl⟩
        exact ⟨_, rfl, rfl, Gr.refl _⟩
      refine GW.bin (.bool r) rfl ⟨12, by kernel_rfl, by kernel_rfl, fun _ _ h => h⟩ rfl (kn (t := 17) (j := 12) (by kernel_rfl)) (kn (t := 20) (j := 15) (by kernel_rfl)) (fun w' => by rw [← hq.out]; simp [go_sem]) ?_
      refine GW.pick (b := true) rfl trivial rfl (kn (t := 12) (j := 7) (by kernel_rfl)) (kn (t := 21) (j := 16) (by kernel_rfl)) (eqv_lasts _) ?_
      refine GW.done (by simp) (by kernel_rfl) (fun w' hg_ => ?_)
      intro v0 _ v1 _ v2 _ v3 _ v4 _ v5 _ v6 _ v7 _ v8 _ v9 _ v10 _ v11 _ v12 _ v13 _ v14 _ v15 _ v16 _ v17 h17
      obtain rfl : v17 = (.bool r) := h17
      simp only [GFin, Act.put, List.setIfInBounds_toArray, List.set_cons_succ, List.set_cons_zero]
      have G2 := Lib.hid (Gr.trans g0.out hg_)
      clear hg_ a0 a1 bx g0 hro hcn hq
      cases r with
      | true =>
        go_wp2
        go_ret
        exact ⟨rfl, G2.out⟩
      | false =>
        go_wp2
        go_ret
        exact ⟨rfl, G2.out⟩
    · rw [decide_eq_false hm, Bool.false_and] at hr
      obtain rfl : false = r := hr
      clear hrs hrt
      go_enter Try.func26, Try.ntmps26
      go_wp2
      refine region_grow (by kernel_rfl) (by kernel_rfl) ?_
      refine GW.ldRow rfl trivial rfl (kn0 (t := 3) (c := .pointer (some ⟨w.heap.size, 0, none⟩)) (by kernel_rfl) rfl) (bx.out) Try.underlying35 rfl (tokInfo _ _ _) ?_
      refine GW.call1 (eqv (.bool true)) rfl trivial rfl Try.func22 (by kernel_rfl) (by kernel_rfl) (eqv_lasts _) (kn (t := 5) (j := 0) (by kernel_rfl)) (fun v w' hg hv => ?_) ?_
      · obtain rfl : v = _ := hv
        refine (hro.out w').mono ?_
        rintro e w9 ⟨rfl, g9⟩
        exact ⟨_, rfl, rfl, g9⟩
      refine GW.mv rfl trivial (.inl rfl) (kn (t := 6) (j := 1) (by kernel_rfl)) (eqv_lasts _) ?_
      refine GW.p1 (.pointer (some ⟨w.heap.size, 1, none⟩)) rfl ⟨7, by kernel_rfl, by kernel_rfl, fun _ _ h => h⟩ (kn0 (t := 3) (c := .pointer (some ⟨w.heap.size, 0, none⟩)) (by kernel_rfl) rfl) (fun ρ w' hρ hg => by simp [execOp, hρ, go_sem]) ?_
      refine GW.p1 (.int .i64 m) rfl ⟨7, by kernel_rfl, by kernel_rfl, fun _ _ h => h⟩ (kn (t := 8) (j := 3) (by kernel_rfl)) (fun ρ w' hρ hg => by simp [execOp, hρ, go_sem, (hg.cell (p := ⟨w.heap.size, 1, none⟩) bx.out.lt).trans (bx.out.cell 1)]) ?_
      refine GW.bin (.bool false) rfl ⟨7, by kernel_rfl, by kernel_rfl, fun _ _ h => h⟩ rfl (kn (t := 9) (j := 4) (by kernel_rfl)) knc (fun w' => by simp [go_sem, hm]) ?_
      refine GW.pick (b := true) rfl trivial rfl (kn (t := 7) (j := 2) (by kernel_rfl)) (kn (t := 10) (j := 5) (by kernel_rfl)) (eqv_lasts _) ?_
      refine GW.mv rfl trivial (.inl rfl) (kn (t := 11) (j := 6) (by kernel_rfl)) (eqv_lasts _) ?_
      refine GW.skip rfl rfl (d := 12) (by kernel_rfl) (by kernel_rfl) (fun _ _ h => .inl h) ?_
      refine GW.skip rfl rfl (d := 12) (by kernel_rfl) (by kernel_rfl) (fun _ _ h => .inl h) ?_
      refine GW.skip rfl rfl (d := 12) (by kernel_rfl) (by kernel_rfl) (fun _ _ h => .inl h) ?_
      refine GW.skip rfl rfl (d := 12) (by kernel_rfl) (by kernel_rfl) (fun _ _ h => .inl h) ?_
      refine GW.skip rfl rfl (d := 12) (by kernel_rfl) (by kernel_rfl) (fun _ _ h => .inl h) ?_
      refine GW.skip rfl rfl (d := 12) (by kernel_rfl) (by kernel_rfl) (fun _ _ h => .inl h) ?_
      refine GW.skip rfl rfl (d := 12) (by kernel_rfl) (by kernel_rfl) (fun _ _ h => .inl h) ?_
      refine GW.skip rfl rfl (d := 12) (by kernel_rfl) (by kernel_rfl) (fun _ _ h => .inl h) ?_
      refine GW.skip rfl rfl (d := 12) (by kernel_rfl) (by kernel_rfl) (fun _ _ h => .inl h) ?_
      refine GW.pick (b := false) rfl trivial rfl (kn (t := 12) (j := 7) (by kernel_rfl)) (knc) (eqv_lasts _) ?_
      refine GW.done (by simp) (by kernel_rfl) (fun w' hg_ => ?_)
      intro v0 _ v1 _ v2 _ v3 _ v4 _ v5 _ v6 _ v7 _ v8 _ v9 _ v10 _ v11 _ v12 _ v13 _ v14 _ v15 _ v16 _ v17 h17
      obtain rfl : v17 = (Value.bool false) := h17
      simp only [GFin, Act.put, List.setIfInBounds_toArray, List.set_cons_succ, List.set_cons_zero]
      have G2 := Lib.hid (Gr.trans g0.out hg_)
      clear hg_ a0 a1 bx g0 hro hcn
      go_wp2
      go_ret
      exact ⟨rfl, G2.out⟩
end Pt
end Go.Proofs.Ytgnogoghfendpaa
namespace Go.Proofs.Ytgnogoghfendpaa
open Go Go.RowKit W Bl Tk
namespace Pt
/-- The bytes that tokens stand for, behind the bytes o, or what is wrong first. -/
def papp (old : List UInt8) (size : Int) : List Tok → List UInt8 → List UInt8 × Nat
  | [], o => (o, 0)
  | t :: l, o => if code1 o (pstep old size t).1 (pstep old size t).2 = 0 then papp old size l (o ++ (pstep old size t).1) else ([], code1 o (pstep old size t).1 (pstep old size t).2)
theorem papp_ok {old : List UInt8} {size : Int} {l : List Tok} {o : List UInt8} {i : Nat} (h : i < l.length) (hc : code1 o (pstep old size l[i]).1 (pstep old size l[i]).2 = 0) :
    papp old size (l.drop i) o = papp old size (l.drop (i + 1)) (o ++ (pstep old size l[i]).1) := by
  rw [List.drop_eq_getElem_cons h, papp, if_pos hc]
theorem papp_bad {old : List UInt8} {size : Int} {l : List Tok} {o : List UInt8} {i : Nat} (h : i < l.length) (hc : ¬ code1 o (pstep old size l[i]).1 (pstep old size l[i]).2 = 0) :
    papp old size (l.drop i) o = ([], code1 o (pstep old size l[i]).1 (pstep old size l[i]).2) := by
  rw [List.drop_eq_getElem_cons h, papp, if_neg hc]
theorem code1_zero {o b : List UInt8} {c : Nat} (h : code1 o b c = 0) : o.length + b.length ≤ 16384 ∧ c = 0 := by
  unfold code1 at h
  split at h
  · cases h
  · omega
/-- As it is between two deeds. -/
def ARel (n : Nat) (A : Option Addr) (c : Nat) (old : List UInt8) (size : Int) (l : List Tok) (w : World) (i : Nat) (w' : World) : Prop :=
  ∃ (o : List UInt8) (A0 : Option Addr) (c0 : Nat), o.length ≤ 16384 ∧ papp old size (l.drop i) o = papp old size l [] ∧ Blk w' n 22 #[.slice A old.length c] ∧ Blk w' (n + 1) 3 #[.int .i64 size] ∧
    Blk w' (n + 1 + 1) 22 #[.slice A0 o.length c0] ∧ OB 5 w' (n + 1 + 1 + 1) (.slice A0 o.length c0) o ∧ Below n w w'
def AStop (n : Nat) (old : List UInt8) (size : Int) (l : List Tok) (w : World) (code : Nat) (w' : World) : Prop := papp old size l [] = ([], code) ∧ Below n w w'
theorem enters_apply1 (v : Value) (caps : Array Value) (w : World) : (callFunc 21 (#[v] ++ caps)).run Try.prog w = .ok (.enter 21 (#[v] ++ caps)) w :=
  Go.Proofs.enters_of Try.func21 (by kernel_rfl) rfl _ w
theorem enters_needs1 (v : Value) (caps : Array Value) (w : World) : (callFunc 26 (#[v] ++ caps)).run Try.prog w = .ok (.enter 26 (#[v] ++ caps)) w :=
  Go.Proofs.enters_of Try.func26 (by kernel_rfl) rfl _ w
theorem applyEach_any (A B : Option Addr) (c cB : Nat) (old : List UInt8) (size : Int) (l : List Tok) (w w3 : World) (hs : old.length ≤ 1000000) (hc : old.length ≤ c) (hr : RB w w.heap.size A old) (hT : TR w w.heap.size B l) (hf : Fits l) (hk40 : l.length ≤ 1000000)
    (h0 : ARel w.heap.size A c old size l w 0 w3) :
    Calls Try.prog 20 #[.slice B l.length cB, .func (.func 21) #[] #[.pointer (some ⟨w.heap.size, 0, none⟩), .pointer (some ⟨w.heap.size + 1, 0, none⟩), .pointer (some ⟨w.heap.size + 1 + 1, 0, none⟩)]] w3
      (Each (ARel w.heap.size A c old size l w) (AStop w.heap.size old size l w) l.length) := by
  refine each_any B cB l w3 _ _ _ _ hk40 (fun v w => enters_apply1 v _ w) h0 ?_ ?_ ?_
  · rintro i w' ⟨o, A0, c0, h1, h2, b0, b1, b2, ho, hb⟩
    exact (hT.below hb).more (by have := b0.lt; omega)
  · rintro i w' w'' ⟨o, A0, c0, h1, h2, b0, b1, b2, ho, hb⟩ hg
    exact ⟨o, A0, c0, h1, h2, blk_more b0 hg, blk_more b1 hg, blk_more b2 hg, ho.below hg, hb.trans (hg.mono (by have := b0.lt; omega))⟩
  · rintro i h w' ⟨o, A0, c0, h1, h2, b0, b1, b2, ho, hb⟩
    refine (apply1_any w.heap.size A c old size l[i] o A0 c0 w' hs hc (hr.below hb) (hf.2 _ (List.getElem_mem h)) h1 b0 b1 b2 ho).mono ?_
    rintro e w'' ⟨rfl, A1, c1, d2, do_, db⟩
    refine ⟨_, rfl, ?_⟩
    by_cases hz : code1 o (pstep old size l[i]).1 (pstep old size l[i]).2 = 0
    · refine .inl ⟨hz, _, A1, c1, ?_, ?_, b0.below db (by omega), b1.below db (by omega), d2, do_, hb.trans (db.mono (by omega))⟩
      · rw [List.length_append]; exact (code1_zero hz).1
      · rw [← papp_ok h hz, h2]
    · refine .inr ⟨hz, ?_, hb.trans (db.mono (by omega))⟩
      rw [← h2, papp_bad h hz]
set_option maxRecDepth 100000 in
set_option maxHeartbeats 4000000 in
theorem apply_any (A B : Option Addr) (c cB : Nat) (old : List UInt8) (size : Int) (l : List Tok) (w : World) (hs : old.length ≤ 1000000) (hc : old.length ≤ c) (hr : RB w w.heap.size A old) (hT : TR w w.heap.size B l) (hf : Fits l) (hk40 : l.length ≤ 1000000) :
    Calls Try.prog 9 #[.slice A old.length c, .int .i64 size, .slice B l.length cB] w (OutP w (papp old size l [])) := by
  have e3 := fun w3 h0 => applyEach_any A B c cB old size l w w3 hs hc hr hT hf hk40 h0
  have z0 := ((Blk.new w 22 #[.slice A old.length c]).alloc (.cells #[.int .i64 size] 3)).alloc (.cells #[.slice none 0 0] 22)
  have z1 := (Blk.new (w.alloc (.cells #[.slice A old.length c] 22)) 3 #[.int .i64 size]).alloc (.cells #[.slice none 0 0] 22)
  have z2 := Blk.new ((w.alloc (.cells #[.slice A old.length c] 22)).alloc (.cells #[.int .i64 size] 3)) 22 #[.slice none 0 0]
  have zb := ((Gr.refl w).alloc (.cells #[.slice A old.length c] 22)).alloc (.cells #[.int .i64 size] 3) |>.alloc (.cells #[.slice none 0 0] 22)
  simp only [World.size_alloc] at z1 z2
  have hE := Lib.hid (e3 _ ⟨[], none, 0, by simp, by simp, z0, z1, z2, OB.nil_, zb⟩)
  clear e3 z0 z1 z2 zb hr hT
  obtain ⟨r, hr0⟩ : ∃ r, papp old size l [] = r := ⟨_, rfl⟩
  rw [hr0]
  replace hr0 := Lib.hid hr0
  go_enter Try.func9, Try.ntmps9
  go_wp2_with fail
  go_at_call 20
  refine (hE.out).mono ?_
  rintro e w1 ⟨code, rfl, hc1⟩
  rcases hc1 with ⟨rfl, o, A0, c0, h1, h2, b0, b1, b2, ho, hb⟩ | ⟨hne, hst, hb⟩
  · have y0 := b2.cell 0
    rw [List.drop_length, papp] at h2
    obtain rfl : r = (o, 0) := hr0.out.symm.trans h2.symm
    have ho' := Lib.hid ho
    have hb' := Lib.hid hb
    clear b0 b1 b2 ho hb h2 hE
    go_wp2
    go_ret2
    exact ⟨_, rfl, isB_of_own ho'.out, hb'.out⟩
  · have hci : ((code : Int) == 0) = false := by rw [beq_eq_false_iff_ne]; omega
    obtain rfl : r = ([], code) := hr0.out.symm.trans hst
    have hb' := Lib.hid hb
    clear hb hst hne hE
    go_wp2
    go_ret2
    exact ⟨_, rfl, isB_nil _, hb'.out⟩
def NRel (n k : Nat) (size : Int) (l : List Tok) (w : World) (i : Nat) (w' : World) : Prop := (∀ j (h : j < l.length), j < i → short k size l[j] = false) ∧ Blk w' n 3 #[.int .i64 k] ∧ Blk w' (n + 1) 3 #[.int .i64 size] ∧ Below n w w'
def NStop (n k : Nat) (size : Int) (l : List Tok) (w : World) (code : Nat) (w' : World) : Prop := l.any (short k size) = true ∧ Below n w w'
theorem needsEach_any (B : Option Addr) (k cB : Nat) (size : Int) (l : List Tok) (w w3 : World) (hs : k ≤ 1000000) (hT : TR w w.heap.size B l) (hf : Fits l) (hk40 : l.length ≤ 1000000) (h0 : NRel w.heap.size k size l w 0 w3) :
    Calls Try.prog 20 #[.slice B l.length cB, .func (.func 26) #[] #[.pointer (some ⟨w.heap.size, 0, none⟩), .pointer (some ⟨w.heap.size + 1, 0, none⟩)]] w3
      (Each (NRel w.heap.size k size l w) (NStop w.heap.size k size l w) l.length) := by
  refine each_any B cB l w3 _ _ _ _ hk40 (fun v w => enters_needs1 v _ w) h0 ?_ ?_ ?_
  · rintro i w' ⟨h1, b0, b1, hb⟩
    exact (hT.below hb).more (by have := b0.lt; omega)
  · rintro i w' w'' ⟨h1, b0, b1, hb⟩ hg
    exact ⟨h1, blk_more b0 hg, blk_more b1 hg, hb.trans (hg.mono (by have := b0.lt; omega))⟩
  · rintro i h w' ⟨h1, b0, b1, hb⟩
    refine (needs1_any w.heap.size k size l[i] w' hs (hf.2 _ (List.getElem_mem h)) b0 b1).mono ?_
    rintro e w'' ⟨rfl, hg⟩
    refine ⟨_, rfl, ?_⟩
    have hb2 := hb.trans (hg.mono (by have := b0.lt; omega))
    cases hz : short k size l[i]
    · refine .inl ⟨by simp, ?_, blk_more b0 hg, blk_more b1 hg, hb2⟩
      intro j hj hji
      rcases Nat.lt_or_ge j i with h2 | h2
      · exact h1 j hj h2
      · obtain rfl : j = i := by omega
        exact hz
    · exact .inr ⟨by simp, List.any_eq_true.2 ⟨_, List.getElem_mem h, hz⟩, hb2⟩
set_option maxRecDepth 100000 in
set_option maxHeartbeats 4000000 in
theorem needs_any (B : Option Addr) (k cB : Nat) (size : Int) (l : List Tok) (w : World) (hs : k ≤ 1000000) (hT : TR w w.heap.size B l) (hf : Fits l) (hk40 : l.length ≤ 1000000) :
    Calls Try.prog 13 #[.int .i64 k, .int .i64 size, .slice B l.length cB] w fun e w' => e = .returned (.bool (!l.any (short k size))) ∧ Gr w w' := by
  have e3 := fun w3 h0 => needsEach_any B k cB size l w w3 hs hT hf hk40 h0
  have z0 := (Blk.new w 3 #[.int .i64 k]).alloc (.cells #[.int .i64 size] 3)
  have z1 := (Blk.new (w.alloc (.cells #[.int .i64 k] 3)) 3 #[.int .i64 size])
  have zb := ((Gr.refl w).alloc (.cells #[.int .i64 k] 3)).alloc (.cells #[.int .i64 size] 3)
  simp only [World.size_alloc] at z1
  have hE := Lib.hid (e3 _ ⟨by intro j hj h; omega, z0, z1, zb⟩)
  clear e3 z0 z1 zb hT
  obtain ⟨q, hq⟩ : ∃ q, (!l.any (short k size)) = q := ⟨_, rfl⟩
  rw [hq]
  go_enter Try.func13, Try.ntmps13
  go_wp2_with fail
  go_at_call 20
  refine (hE.out).mono ?_
  rintro e w1 ⟨code, rfl, hc1⟩
  rcases hc1 with ⟨rfl, h1, b0, b1, hb⟩ | ⟨hne, hst, hb⟩
  · obtain rfl : true = q := by
      rw [← hq]
      have : l.any (short k size) = false := by
        rw [List.any_eq_false]
        intro t ht
        obtain ⟨j, hj, rfl⟩ := List.getElem_of_mem ht
        rw [h1 j hj hj]
        simp
      rw [this]
      rfl
    have hb' := Lib.hid hb
    clear b0 b1 hb h1 hE hq
    go_wp2
    go_ret
    exact ⟨rfl, hb'.out⟩
  · obtain rfl : false = q := by
      rw [← hq, hst]
      rfl
    have hci : ((code : Int) == 0) = false := by rw [beq_eq_false_iff_ne]; omega
    have hb' := Lib.hid hb
    clear hb hst hne hE hq
    go_wp2
    go_ret
    exact ⟨by simp [hci], hb'.out⟩
end Pt
end Go.Proofs.Ytgnogoghfendpaa
namespace Go.Proofs.Ytgnogoghfendpaa
open Sg Tk Bl Se
namespace Pb
/-- The bytes that a token stands for. -/
def val1 (l : List UInt8) (h : Nat) (t : Tok) : List UInt8 := if t.m = 0 then t.d else many l h t.f.toNat t.m.toNat
/-- It is right, and all its blocks are there. -/
def Good (l : List UInt8) (h : Nat) (t : Tok) : Prop := Tk.right t = true ∧ (0 < t.m → t.f.toNat + t.m.toNat ≤ count l.length h)
def valL (l : List UInt8) (h : Nat) (ts : List Tok) : List UInt8 := ts.flatMap (val1 l h)
theorem valL_append (l : List UInt8) (h : Nat) (a b : List Tok) : valL l h (a ++ b) = valL l h a ++ valL l h b := by simp [valL]
theorem valL_one (l : List UInt8) (h : Nat) (t : Tok) : valL l h [t] = val1 l h t := by simp [valL]
theorem many_add (l : List UInt8) (h f a : Nat) : ∀ b, many l h f (a + b) = many l h f a ++ many l h (f + a) b := by
  intro b
  induction b with
  | zero => simp [many_zero]
  | succ b ih => rw [← Nat.add_assoc, many_succ, ih, many_succ, List.append_assoc, Nat.add_assoc]
theorem two_good {a b c : Tok} (l : List UInt8) (h : Nat) (ha : Good l h a) (hb : Good l h b) (e : two a b = some c) : Good l h c ∧ val1 l h c = val1 l h a ++ val1 l h b := by
  have hc := two_right ha.1 hb.1 e
  obtain ⟨a1, a2, a3, a4, a5⟩ := Tk.right_spec ha.1
  obtain ⟨b1, b2, b3, b4, b5⟩ := Tk.right_spec hb.1
  have hb2 := hb.2
  unfold two at e
  split at e
  · rename_i hx
    injection e with e
    subst e
    refine ⟨⟨hc, fun h0 => absurd h0 (by simp)⟩, ?_⟩
    unfold val1
    rw [if_pos rfl, if_pos hx.1, if_pos hx.2.1]
  · split at e
    · rename_i hx
      injection e with e
      subst e
      refine ⟨⟨hc, fun _ => ?_⟩, ?_⟩
      · have := hb2 hx.2.1
        simp only
        omega
      · unfold val1
        rw [if_neg (by simp only; omega), if_neg (by omega), if_neg (by omega)]
        simp only
        rw [show (a.m + b.m).toNat = a.m.toNat + b.m.toNat by omega, many_add, show b.f.toNat = a.f.toNat + a.m.toNat by omega]
    · cases e
theorem step_good' (l : List UInt8) (h : Nat) (out : List Tok) (t : Tok) (ho : ∀ x ∈ out, Good l h x) (ht : Good l h t) : (∀ x ∈ Tk.step out t, Good l h x) ∧ valL l h (Tk.step out t) = valL l h out ++ val1 l h t := by
  rw [step_good ht.1]
  rcases snoc_or out with rfl | ⟨o, a, rfl⟩
  · rw [push_nil]
    exact ⟨fun x hx => by obtain rfl := List.mem_singleton.1 hx; exact ht, by rw [valL_one]; rfl⟩
  · have ha := ho a (by simp)
    rw [push_last]
    cases e : two a t with
    | none =>
      refine ⟨fun x hx => ?_, by rw [valL_append, valL_one]⟩
      rcases List.mem_append.1 hx with hx | hx
      · exact ho x hx
      · obtain rfl := List.mem_singleton.1 hx; exact ht
    | some c =>
      obtain ⟨q1, q2⟩ := two_good l h ha ht e
      refine ⟨fun x hx => ?_, ?_⟩
      · rcases List.mem_append.1 hx with hx | hx
        · exact ho x (by simp [hx])
        · obtain rfl := List.mem_singleton.1 hx; exact q1
      · simp only
        rw [valL_append, valL_append, valL_one, valL_one, q2, List.append_assoc]
theorem fold_good (l : List UInt8) (h : Nat) (ts : List Tok) : ∀ out, (∀ x ∈ out, Good l h x) → (∀ x ∈ ts, Good l h x) → (∀ x ∈ ts.foldl Tk.step out, Good l h x) ∧ valL l h (ts.foldl Tk.step out) = valL l h out ++ valL l h ts := by
  induction ts with
  | nil => intro out ho _; exact ⟨ho, by simp [valL]⟩
  | cons t ts ih =>
    intro out ho ht
    obtain ⟨p1, p2⟩ := step_good' l h out t ho (ht t (by simp))
    obtain ⟨q1, q2⟩ := ih _ p1 (fun x hx => ht x (by simp [hx]))
    refine ⟨q1, ?_⟩
    rw [List.foldl_cons, q2, p2, List.append_assoc]
    simp [valL]
theorem join_good (l : List UInt8) (h : Nat) (ts : List Tok) (ht : ∀ x ∈ ts, Good l h x) : (∀ x ∈ join ts, Good l h x) ∧ valL l h (join ts) = valL l h ts := by
  have := fold_good l h ts [] (by simp) ht
  simpa [join, valL] using this
theorem good_step {l : List UInt8} {size : Int} {t : Tok} (hg : Good l (hold size) t) : Pt.pstep l size t = (val1 l (hold size) t, 0) := by
  unfold val1
  by_cases hm : t.m = 0
  · rw [Pt.pstep_lit hg.1 hm, if_pos hm]
  · have := (Tk.right_spec hg.1).2.1
    rw [Pt.pstep_some hg.1 hm (by have := hg.2 (by omega); omega), if_neg hm]
theorem good_app {l : List UInt8} {size : Int} : ∀ (ts : List Tok) (o : List UInt8), (∀ x ∈ ts, Good l (hold size) x) → o.length + (valL l (hold size) ts).length ≤ 16384 → Pt.papp l size ts o = (o ++ valL l (hold size) ts, 0) := by
  intro ts
  induction ts with
  | nil => intro o _ _; simp [Pt.papp, valL]
  | cons t ts ih =>
    intro o ht hl
    have hg := good_step (ht t (by simp))
    have hv : valL l (hold size) (t :: ts) = val1 l (hold size) t ++ valL l (hold size) ts := by simp [valL]
    rw [hv, List.length_append] at hl
    unfold Pt.papp
    rw [hg]
    simp only
    rw [if_pos (Pt.code1_ok rfl (by omega)), ih _ (fun x hx => ht x (by simp [hx])) (by rw [List.length_append]; omega), hv, List.append_assoc]
theorem good_short {l : List UInt8} {size : Int} {ts : List Tok} (ht : ∀ x ∈ ts, Good l (hold size) x) : ts.any (Pt.short l.length size) = false := by
  rw [List.any_eq_false]
  intro t hx
  have hg := ht t hx
  unfold Pt.short
  rw [hg.1, Bool.true_and]
  by_cases hm : 0 < t.m
  · have := hg.2 hm
    simp; omega
  · simp [hm]
/-- A block of the old bytes and a window of the new ones, of one length, that are not the same have one strong sum. -/
def Clash (l b : List UInt8) (h : Nat) : Prop := ∃ k at_, k < count l.length h ∧ at_ + (Bl.at_ l h k).length ≤ b.length ∧ (b.drop at_).take (Bl.at_ l h k).length ≠ Bl.at_ l h k ∧ Mix.of ((b.drop at_).take (Bl.at_ l h k).length) = Mix.of (Bl.at_ l h k)
theorem step_sign {l b : List UInt8} {size : Int} (hl : l.length ≤ 16384) {at_ k m : Nat} {next : Int} (e : stepP (sigOf l size) b at_ next = some (k, m)) : k < count l.length (hold size) ∧ sign ((b.drop at_).take m) = sign (Bl.at_ l (hold size) k) := by
  have hh := (hold_pos size).1
  have hsz : (sigOf l size).size = (hold size : Int) := rfl
  have htl : (sigOf l size).tail = ((l.length % hold size : Nat) : Int) := rfl
  have hbs : (sigOf l size).bs = full l (hold size) := rfl
  have hls : (sigOf l size).last = lastOf l (hold size) := rfl
  have hbl : (sigOf l size).bs.length = l.length / hold size := full_len l (hold size)
  have hcnt := count_lt (n := l.length) (k := k) (show 0 < hold size by omega)
  generalize hold size = h at *
  have hm := Nat.div_add_mod l.length h
  have hmlt := Nat.mod_lt l.length (show 0 < h by omega)
  have hp := step_pos e
  unfold stepP at e
  split at e
  · obtain ⟨k', hk, e2⟩ := Option.map_eq_some_iff.1 e
    injection e2 with e3 e4
    subst e3
    have hlt := which_lt hk
    rw [hbl] at hlt
    have hjh : (k' + 1) * h ≤ l.length := Nat.le_trans (Nat.mul_le_mul_right h hlt) (Nat.div_mul_le_self _ _)
    rw [Nat.succ_mul] at hjh
    have hkx : (sigOf l size).bs[k']? = some (sign ((b.drop at_).take (sigOf l size).size.toNat)) := by
      unfold whichP at hk
      split at hk
      · rename_i hn
        injection hk with hk
        rw [← hk]
        exact hn.2
      · obtain ⟨q1, q2, _⟩ := List.findIdx?_eq_some_iff_getElem.1 hk
        rw [List.getElem?_eq_getElem q1]
        congr 1
        simpa using q2
    rw [e4] at hkx
    refine ⟨hcnt.2 (by omega), ?_⟩
    have hf : (sigOf l size).bs[k']? = some (sign (Bl.at_ l h k')) := by
      rw [hbs]
      unfold full
      rw [List.getElem?_map, List.getElem?_range (by omega)]
      rfl
    rw [hf] at hkx
    exact (Option.some.inj hkx).symm
  · split at e
    · rename_i hc
      injection e with e
      injection e with e3 e4
      rw [hbl] at e3
      rw [htl] at e4
      obtain ⟨_, c1, c2, c3⟩ := hc
      rw [htl] at c1 c2
      subst e3
      rw [Nat.mul_comm] at hm
      refine ⟨hcnt.2 (by omega), ?_⟩
      rw [hls] at c3
      unfold lastOf at c3
      rw [if_pos (by omega)] at c3
      rw [List.take_of_length_le (by rw [List.length_drop]; omega), c3]
    · cases e
theorem find_good (l b : List UInt8) (size : Int) (hl : l.length ≤ 16384) : ∀ (d at_ : Nat) (next : Int), b.length - at_ ≤ d → at_ ≤ b.length →
    (∀ x ∈ findP (sigOf l size) b at_ next, Good l (hold size) x) ∧ (valL l (hold size) (findP (sigOf l size) b at_ next)).length = b.length - at_ ∧ (¬ Clash l b (hold size) → valL l (hold size) (findP (sigOf l size) b at_ next) = b.drop at_) := by
  have hr := right_sigOf l size hl
  have hbs := (Sg.right_spec hr).2.2.1
  intro d
  induction d with
  | zero =>
    intro at_ next h1 h2
    rw [findP_end (by omega)]
    exact ⟨by simp, by simp [valL]; omega, fun _ => by rw [List.drop_of_length_le (by omega)]; rfl⟩
  | succ d ih =>
    intro at_ next h1 h2
    by_cases h0 : b.length ≤ at_
    · rw [findP_end h0]
      exact ⟨by simp, by simp [valL]; omega, fun _ => by rw [List.drop_of_length_le (by omega)]; rfl⟩
    · cases e : stepP (sigOf l size) b at_ next with
      | none =>
        have hd : ((b.drop at_).take 1).length = 1 := by rw [List.length_take, List.length_drop]; omega
        obtain ⟨i1, i2, i3⟩ := ih (at_ + 1) (-1) (by omega) (by omega)
        rw [findP_none (by omega) e]
        have hv : ∀ ts, valL l (hold size) ((⟨0, 0, (b.drop at_).take 1⟩ : Tok) :: ts) = (b.drop at_).take 1 ++ valL l (hold size) ts := fun ts => by simp [valL, val1]
        refine ⟨fun x hx => ?_, by rw [hv, List.length_append, hd, i2]; omega, fun hc => ?_⟩
        · rcases List.mem_cons.1 hx with rfl | hx
          · exact ⟨right_lit (by intro h; rw [h] at hd; cases hd) (by omega), fun h => absurd h (by simp)⟩
          · exact i1 x hx
        · rw [hv, i3 hc, ← List.drop_drop]
          exact List.take_append_drop 1 (b.drop at_)
      | some q =>
        obtain ⟨k, m⟩ := q
        obtain ⟨p1, p2, p3⟩ := step_pos e
        have hk := step_len hl e
        obtain ⟨hkc, hsg⟩ := step_sign hl e
        obtain ⟨i1, i2, i3⟩ := ih (at_ + m) ((k : Int) + 1) (by omega) p2
        rw [findP_some (by omega) e]
        have hrt : Tk.right (⟨(k : Int), 1, []⟩ : Tok) = true := Tk.right_mk (by simp only; omega) (by simp) (by simp only; omega) (by simp only; omega) (.inl ⟨by simp, rfl⟩)
        have hv : ∀ ts, valL l (hold size) ((⟨(k : Int), 1, []⟩ : Tok) :: ts) = Bl.at_ l (hold size) k ++ valL l (hold size) ts := fun ts => by
          simp [valL, val1, many]
        refine ⟨fun x hx => ?_, by rw [hv, List.length_append, hk, i2]; omega, fun hc => ?_⟩
        · rcases List.mem_cons.1 hx with rfl | hx
          · exact ⟨hrt, fun _ => by simp only; omega⟩
          · exact i1 x hx
        · have hw : (b.drop at_).take m = Bl.at_ l (hold size) k := by
            refine Classical.byContradiction fun hne => hc ⟨k, at_, hkc, by rw [hk]; exact p2, by rw [hk]; exact hne, by rw [hk]; exact congrArg (fun z => z.2) hsg⟩
          rw [hv, i3 hc, ← hw, ← List.drop_drop]
          exact List.take_append_drop m (b.drop at_)
/-- The law: what is found is put together, of the right length; it is the new bytes, or two strong sums clash. -/
theorem back_law (l b : List UInt8) (size : Int) (hl : l.length ≤ 16384) (hb : b.length ≤ 16384) :
    ∃ r, Pt.papp l size (refOf (sigOf l size) b) [] = (r, 0) ∧ r.length = b.length ∧ (refOf (sigOf l size) b).any (Pt.short l.length size) = false ∧ (r = b ∨ Clash l b (hold size)) := by
  obtain ⟨g1, g2, g3⟩ := find_good l b size hl b.length 0 (-1) (by omega) (by omega)
  obtain ⟨j1, j2⟩ := join_good l (hold size) _ g1
  refine ⟨valL l (hold size) (refOf (sigOf l size) b), ?_, ?_, good_short j1, ?_⟩
  · have := good_app (size := size) (refOf (sigOf l size) b) [] j1 (by
      rw [show valL l (hold size) (refOf (sigOf l size) b) = _ from j2, g2]
      simp only [List.length_nil]
      omega)
    rwa [List.nil_append] at this
  · rw [show valL l (hold size) (refOf (sigOf l size) b) = _ from j2, g2]
    omega
  · by_cases hc : Clash l b (hold size)
    · exact .inr hc
    · left
      rw [show valL l (hold size) (refOf (sigOf l size) b) = _ from j2, g3 hc]
      rfl
end Pb
end Go.Proofs.Ytgnogoghfendpaa
namespace Go.Proofs.Ytgnogoghfendpaa
open Go Go.RowKit Go.Shelf W Sg Tk Go.Maps Go.ChangeMaps Go.MapKept Go.ChangeShapes
namespace Se
theorem grown_pre {w w' w1 : World} {r : Option Nat} (k : Gr w w') (h : w'.grownBy w1 r) : w.grownBy w1 r :=
  ⟨(World.grownBy.os h).trans k.os, (World.grownBy.tape h).trans k.tape, (World.grownBy.output h).trans k.output, Nat.le_trans k.size (World.grownBy.size h), fun i hi hn => (World.grownBy.block h i (Nat.lt_of_lt_of_le hi k.size) hn).trans (k.block i hi)⟩
/-- What the look-up hands over: the slice at a weak sum, and the way back. -/
def isGrp (mb n : Nat) (D : DataW Unit) (x : UInt32) : Ass := fun v w => ∃ zs, D.atKey (.int .u32 (n32 x)) .nil = rowDatum .i64 v zs ∧ w.ownsInts (mb + 1) 3 .i64 v zs ∧ zs.length ≤ n ∧
  w.groupBack Try.prog 89 65 (mb + 1) 3 .i64 mb n D (.int .u32 (n32 x)) (.int .u32 (n32 x)) v
theorem isGrp_lasts (mb n : Nat) (D : DataW Unit) (x : UInt32) : Lasts (isGrp mb n D x) := fun v w w' k ⟨zs, h1, h2, h3, h4⟩ =>
  ⟨zs, h1, ints_kt (KT2.of_gr (t := 91) (u := 35) k) h2 (by decide) (by decide), h3, fun w1 v' zs' hg ho hl hloc => h4 w1 v' zs' (grown_pre k hg) ho hl (hloc.imp id (fun ⟨g, e, hge⟩ => ⟨g, e, Nat.le_trans k.size hge⟩))⟩
theorem grp_at {w : World} {mb n : Nat} {D : DataW Unit} (h : w.ownsGroups Try.prog 65 (mb + 1) 3 .i64 mb n D) (hn : n ≤ 1000000) (x : UInt32) : ∃ v, (Instr.lookup 89 (.map (some mb)) (.int .u32 (n32 x)) false).run Try.prog w = .ok v w ∧ isGrp mb n D x v w := by
  obtain ⟨v, zs, hrun, hat, ho, hzl, hback⟩ := h.at law32 Try.underlying89 (zeroInts w) (by unfold maxLen; omega) (key32 x)
  exact ⟨v, hrun, zs, hat, ho, hzl, hback⟩
theorem grp_zs {w : World} {mb : Nat} {bs : List Sign} {D : DataW Unit} {x : UInt32} {v : Value} {zs : List Int} (hI : ∀ x : UInt32, itemsD (D.atKey (.int .u32 (n32 x)) .nil) = lits .i64 (weakIdx bs x)) (hat : D.atKey (.int .u32 (n32 x)) .nil = rowDatum .i64 v zs) (ho : w.ownsInts (mb + 1) 3 .i64 v zs) : zs = weakIdx bs x := by
  have := hI x
  rw [hat] at this
  rcases ho.datum (H := Unit) with ⟨hd, hz⟩ | hd
  · rw [hd] at this
    rw [hz]
    exact lits_inj (by rw [← this]; rfl)
  · rw [hd] at this
    exact lits_inj this
theorem wm_put {w w9 w2 : World} {mb : Nat} {bs : List Sign} {s : Sign} {D : DataW Unit} {v v9 : Value} {zs : List Int} (h0 : w.ownsGroups Try.prog 65 (mb + 1) 3 .i64 mb bs.length D) (hI : ∀ x : UInt32, itemsD (D.atKey (.int .u32 (n32 x)) .nil) = lits .i64 (weakIdx bs x))
    (hat : D.atKey (.int .u32 (n32 s.1)) .nil = rowDatum .i64 v zs) (ho : w.ownsInts (mb + 1) 3 .i64 v zs) (ho9 : w9.ownsInts (mb + 1) 3 .i64 v9 (zs ++ [(bs.length : Int)]))
    (h2 : w2.ownsGroups Try.prog 65 (mb + 1) 3 .i64 mb (bs.length + 1) (D.put (.int .u32 (n32 s.1)) (rowDatum .i64 v9 (zs ++ [(bs.length : Int)])))) : WM w2 mb (bs ++ [s]) := by
  have hz := grp_zs hI hat ho
  refine ⟨_, by rw [List.length_append]; exact h2, fun x => ?_⟩
  rw [weakIdx_snoc]
  by_cases hx : s.1 = x
  · subst hx
    rw [atKey_put_same (by obtain ⟨es, _, _, _, _, rfl, _⟩ := h0; exact ⟨_, rfl⟩) (by trivial), ho9.datum_pos (by simp), hz]
    simp [itemsD]
  · have hne : (Lit.int .u32 (n32 x)) ≠ .int .u32 (n32 s.1) := fun e => hx (by
      injection e with _ e
      rw [n32_inj] at e
      exact e.symm)
    rw [atKey_put_other hne, hI x]
    simp [hx]
end Se
end Go.Proofs.Ytgnogoghfendpaa
namespace Go.Proofs.Ytgnogoghfendpaa
open Go Go.RowKit Go.Shelf W
attribute [local go_sem] Oper.semAt_some
namespace Roll
/-- The windows' sums: the first k. -/
def upto (bs : List UInt8) (n k : Nat) : List (Nat × UInt32) := (List.range k).map fun j => (j, of ((bs.drop j).take n))
theorem upto_succ (bs : List UInt8) (n k : Nat) : upto bs n (k + 1) = upto bs n k ++ [(k, of ((bs.drop k).take n))] := by simp [upto, List.range_succ]
theorem upto_length (bs : List UInt8) (n k : Nat) : (upto bs n k).length = k := by simp [upto]
def enc (x : Nat × UInt32) : Array Value := #[.int .i64 (x.1 : Int), .int .u32 (n32 x.2)]
theorem gr_grown {w w' : World} (h : Gr w w') : w.grownBy w' none := ⟨h.os, h.tape, h.output, h.size, fun k hk _ => h.block k hk⟩
/-- The next window's sum. -/
theorem roll_next (bs : List UInt8) (n k : Nat) (hn : 1 ≤ n) (h : k + n < bs.length) (o i : UInt8) (ho : bs[k]? = some o) (hi : bs[k + n]? = some i) :
    roll (of ((bs.drop k).take n)) (UInt16.ofNat n) o i = of ((bs.drop (k + 1)).take n) := by
  obtain ⟨n, rfl⟩ : ∃ j, n = j + 1 := ⟨n - 1, by omega⟩
  have hk : k < bs.length := by omega
  have e1 : (bs.drop k).take (n + 1) = o :: (bs.drop (k + 1)).take n := by
    rw [List.drop_eq_getElem_cons hk, List.take_succ_cons]
    congr 1
    rw [List.getElem?_eq_getElem hk] at ho
    exact Option.some.inj ho
  have e2 : (bs.drop (k + 1)).take (n + 1) = (bs.drop (k + 1)).take n ++ [i] := by
    rw [List.take_add_one]
    congr 1
    rw [List.getElem?_drop, show k + 1 + n = k + (n + 1) from by omega, hi]
    rfl
  have e3 : ((bs.drop (k + 1)).take n).length = n := by simp; omega
  rw [e1, e2]
  have := roll_of o ((bs.drop (k + 1)).take n) i
  rw [e3] at this
  exact this

set_option maxRecDepth 100000 in
set_option maxHeartbeats 2000000 in
theorem windows1_in (m : Nat) (hm : 1 ≤ m) (l Bn Bb n₀ : Nat) (A : Option Addr) (c n : Nat) (bs : List UInt8) (hs : bs.length ≤ 1099511627776) (hc : bs.length ≤ c) (hcm : c ≤ maxLen) (hn1 : 1 ≤ n) (hn2 : n ≤ bs.length)
    (J Jx : List (Nat × UInt32) → World → Prop) (W : World) (hJ : AbidesFrom W.heap.size J)
    (hY : ∀ pre x W1, J pre W1 → pre.length < bs.length - n + 1 → YieldAt Fence.wide (m - 1) Try.prog l (enc x) W1 fun e W' =>
      (e = .returned (.bool true) ∧ J (pre ++ [x]) W' ∧ Below n₀ W1 W') ∨ (e = .returned (.bool false) ∧ Jx (pre ++ [x]) W'))
    (hBn : Bn < n₀) (hBb : Bb < n₀) (hn₀ : n₀ ≤ W.heap.size) (cn : W.cell? ⟨Bn, 0, none⟩ = some (.int .i64 (n : Int))) (cb : W.cell? ⟨Bb, 0, none⟩ = some (.slice A bs.length c)) (hr : RB W n₀ A bs) (h0 : J [] W) :
    CallsIn Fence.wide m Try.prog 55 #[.func (.yield l) #[] #[], .pointer (some ⟨Bn, 0, none⟩), .pointer (some ⟨Bb, 0, none⟩)] W fun e W' => (∃ v, e = .returned v) ∧
      ((∃ ys, ys = upto bs n (bs.length - n + 1) ∧ J ys W') ∨ (∃ pre, (∃ k, k ≤ bs.length - n + 1 ∧ pre = upto bs n k) ∧ Jx pre W')) := by
  have hof := Lib.hid (of_any A c n₀ (bs.take n) W (by simp; omega) hn₀ (hr.take hn2))
  have hro := Lib.hid (fun s o i w => roll_any s n o i w (by omega))
  have hrh := Lib.hid hr
  have hYh := Lib.hid hY
  have hJh := Lib.hid hJ
  clear hr hY hJ
  have g1 : ¬ ((n : Int) < 1) := by omega
  have g2 : ¬ ((bs.length : Int) < (n : Int)) := by omega
  have g3 : (n : Int) ≤ (c : Int) := by omega
  have g4 : 0 ≤ (n : Int) := by omega
  have lt : (bs.take n).length = n := by simp; omega
  rw [lt] at hof
  refine callsIn_of_wp Try.func55 rfl trivial ?_ rfl
  simp only [Try.ntmps55, List.size_toArray, List.length_cons, List.length_nil, Nat.reduceAdd, Nat.reduceSub, Array.replicate_succ, Array.replicate_zero, List.push_toArray, List.append_toArray, List.nil_append, List.cons_append]
  gi_wp2_with (refine ⟨trivial, ?_⟩; gi_at_call 52; refine (callsIn_wide.2 hof.out).mono ?_; clear hof; rintro e W0 ⟨rfl, hg0⟩; have hg0h := Lib.hid hg0; clear hg0)
  gi_loopw [5, 4] (fun i v wr => ∃ k : Nat, k + n ≤ bs.length ∧ i = .int .i64 (k : Int) ∧ v = .int .u32 (n32 (of ((bs.drop k).take n))) ∧ J (upto bs n k) wr ∧ Below n₀ W wr)
    (fun i _ _ => bs.length - (intOf i).toNat)
  case atStart => exact ⟨0, by omega, rfl, by simp, hJh.out _ _ _ none h0 (gr_grown hg0h.out) (by simp), hg0h.out.mono hn₀⟩
  case round =>
    obtain ⟨k, hk, rfl, rfl, hJs, hnx⟩ := hrel
    have hcn := fun w' (h : Below n₀ wr w') => ((hnx.trans h).cell (p := ⟨Bn, 0, none⟩) hBn).trans cn
    have hcb := fun w' (h : Below n₀ wr w') => ((hnx.trans h).cell (p := ⟨Bb, 0, none⟩) hBb).trans cb
    obtain ⟨fn, tmps, assign, body, hy, hR⟩ := hYh.out _ (k, of ((bs.drop k).take n)) wr hJs (by rw [upto_length]; omega)
    dsimp only [enc] at hy
    gi_wp2
    refine hR.mono ?_
    rintro e W3 (⟨rfl, hJ3, hk3⟩ | ⟨rfl, hJx3⟩)
    · have cn3 := hcn W3 hk3
      have cb3 := hcb W3 hk3
      have hr3 := hrh.out.below (hnx.trans hk3)
      by_cases hlt : k + n = bs.length
      · have e1 : ((n : Int) == (bs.length : Int) - (k : Int)) = true := by simp; omega
        gi_wp2
        refine bodyPost_ret (results_none rfl _ _ _) rfl ?_
        refine ⟨⟨_, rfl⟩, .inl ⟨_, rfl, ?_⟩⟩
        rw [show bs.length - n + 1 = k + 1 from by omega, upto_succ]
        exact hJ3
      · have e1 : ((n : Int) == (bs.length : Int) - (k : Int)) = false := by simp; omega
        obtain ⟨ad, rfl, hadb, hc1⟩ := hr3.at_ (k := k) (by omega)
        obtain ⟨ad2, e2, _, hc2⟩ := hr3.at_ (k := k + n) (by omega)
        obtain rfl := Option.some.inj e2
        have hc2' : W3.cell? (ad.add ((k : Int) + (n : Int)).toNat) = some (.int .u8 (n8 (bs[k + n]'(by omega)))) := by rw [show ((k : Int) + (n : Int)).toNat = k + n from by omega]; exact hc2
        have k1 : IntKind.i64.wrap ((k : Int) + (n : Int)) = (k : Int) + (n : Int) := IntWalk.i64_in _ (by omega)
        have k2 : 0 ≤ (k : Int) + (n : Int) := by omega
        have k3 : (k : Int) + (n : Int) < (bs.length : Int) := by omega
        have k4 : 0 ≤ (k : Int) := by omega
        have k5 : (k : Int) < (bs.length : Int) := by omega
        have k6 : (k : Int).toNat = k := by omega
        clear hr3 e2
        gi_wp2
        refine wpIn_wide.2 ?_
        go_quiet ((go_at_call 56; refine (hro.out _ _ _ _).mono ?_; rintro e w' ⟨rfl, rfl⟩; exact ⟨rfl, _, rfl⟩))
        rename_i nq
        rw [roll_next bs n k hn1 (by omega) _ _ (List.getElem?_eq_getElem (by omega)) (List.getElem?_eq_getElem (by omega))]
        clear hc1 hc2 hc2' cb3 cn3
        gi_wp2
        go_roundw
        case rel =>
          refine ⟨k + 1, by omega, by simp, rfl, ?_, below_drewN (hnx.trans hk3) _⟩
          rw [upto_succ]
          exact hJh.out _ _ _ none hJ3 (gr_grown (below_drewN (Below.refl _ _) _)) (by simp)
        case measure => simp [intOf]; omega
    · gi_wp2
      go_end0
      exact ⟨⟨_, rfl⟩, .inr ⟨_, ⟨k + 1, by omega, (upto_succ _ _ _).symm⟩, hJx3⟩⟩

set_option maxRecDepth 100000 in
set_option maxHeartbeats 1000000 in
theorem windows1_bad (m : Nat) (l Bn Bb : Nat) (A : Option Addr) (c len : Nat) (n : Int) (hn : n < 1 ∨ (len : Int) < n) (J : List (Nat × UInt32) → World → Prop) (W : World)
    (cn : W.cell? ⟨Bn, 0, none⟩ = some (.int .i64 n)) (cb : W.cell? ⟨Bb, 0, none⟩ = some (.slice A len c)) (h0 : J [] W) :
    CallsIn Fence.wide m Try.prog 55 #[.func (.yield l) #[] #[], .pointer (some ⟨Bn, 0, none⟩), .pointer (some ⟨Bb, 0, none⟩)] W fun e W' => (∃ v, e = .returned v) ∧ J [] W' := by
  refine callsIn_of_wp Try.func55 rfl trivial ?_ rfl
  simp only [Try.ntmps55, List.size_toArray, List.length_cons, List.length_nil, Nat.reduceAdd, Nat.reduceSub, Array.replicate_succ, Array.replicate_zero, List.push_toArray, List.append_toArray, List.nil_append, List.cons_append]
  by_cases g1 : n < 1
  · gi_wp2
    refine bodyPost_ret (results_none rfl _ _ _) rfl ?_
    exact ⟨⟨_, rfl⟩, h0⟩
  · have g2 : (len : Int) < n := by omega
    gi_wp2
    refine bodyPost_ret (results_none rfl _ _ _) rfl ?_
    exact ⟨⟨_, rfl⟩, h0⟩

set_option maxRecDepth 100000 in
set_option maxHeartbeats 1000000 in
/-- roll.Windows: two boxes; the function value captures both. -/
theorem windows_any (A : Option Addr) (len c : Nat) (n : Int) (w : World) :
    Calls Try.prog 45 #[.slice A len c, .int .i64 n] w fun e w' =>
      e = .returned (.func (.func 55) #[] #[.pointer (some ⟨w.heap.size + 1, 0, none⟩), .pointer (some ⟨w.heap.size, 0, none⟩)]) ∧
      w' = (w.alloc (.cells #[.slice A len c] 22)).alloc (.cells #[.int .i64 n] 3) := by
  have hmf : ∀ (fn : Fn) (first cap : Array Value) (w : World), (Instr.makeFunc fn first cap).run Try.prog w = .ok (.func fn first cap) w := fun _ _ _ _ => rfl
  go_enter Try.func45, Try.ntmps45
  go_wp2
  go_ret
  exact ⟨rfl, rfl⟩

/-- What the iterator tells, for whatever n: all of these. -/
def wins (bs : List UInt8) (n : Int) : List (Nat × UInt32) := if 1 ≤ n ∧ n ≤ bs.length then upto bs n.toNat (bs.length - n.toNat + 1) else []
theorem windows_stops (m : Nat) (hm : 1 ≤ m) (Bn Bb n₀ : Nat) (A : Option Addr) (c : Nat) (n : Int) (bs : List UInt8) (hs : bs.length ≤ 1099511627776) (hc : bs.length ≤ c) (hcm : c ≤ maxLen) (w : World)
    (hBn : Bn < n₀) (hBb : Bb < n₀) (hn₀ : n₀ ≤ w.heap.size) (cn : w.cell? ⟨Bn, 0, none⟩ = some (.int .i64 n)) (cb : w.cell? ⟨Bb, 0, none⟩ = some (.slice A bs.length c)) (hr : RB w n₀ A bs) :
    SeqStopsK Fence.wide m Try.prog 55 #[.pointer (some ⟨Bn, 0, none⟩), .pointer (some ⟨Bb, 0, none⟩)] enc (Below n₀) (fun ys => ys = wins bs n)
      (fun pre => ∃ k, k ≤ (wins bs n).length ∧ pre = (wins bs n).take k) (wins bs n).length w := fun l J Jx W hW hJ hJx hY h0 => by
  have hb := hW.mono hn₀
  have cn' := (hb.cell (p := ⟨Bn, 0, none⟩) hBn).trans cn
  have cb' := (hb.cell (p := ⟨Bb, 0, none⟩) hBb).trans cb
  by_cases h : 1 ≤ n ∧ n ≤ bs.length
  · obtain ⟨k, rfl⟩ : ∃ k : Nat, n = (k : Int) := ⟨n.toNat, by omega⟩
    have e : wins bs k = upto bs k (bs.length - k + 1) := by unfold wins; rw [if_pos h]; rfl
    rw [e] at hY ⊢
    simp only [upto_length] at hY ⊢
    refine (windows1_in m hm l Bn Bb n₀ A c k bs hs hc hcm (by omega) (by omega) J Jx W hJ hY hBn hBb (Nat.le_trans hn₀ hW.size) cn' cb' (hr.below hb) h0).mono ?_
    rintro e W' ⟨he, ⟨ys, rfl, hj⟩ | ⟨pre, ⟨j, hj1, rfl⟩, hj⟩⟩
    · exact ⟨he, .inl ⟨_, rfl, hj⟩⟩
    · refine ⟨he, .inr ⟨_, ⟨j, hj1, ?_⟩, hj⟩⟩
      unfold upto
      rw [← List.map_take, List.take_range, Nat.min_eq_left hj1]
  · have e : wins bs n = [] := by unfold wins; rw [if_neg h]
    refine (windows1_bad m l Bn Bb A c bs.length n (by omega) J W cn' cb' h0).mono ?_
    rintro e' W' ⟨he, hj⟩
    exact ⟨he, .inl ⟨_, rfl, by rw [e]; exact hj⟩⟩
end Roll
end Go.Proofs.Ytgnogoghfendpaa
namespace Go.Proofs.Ytgnogoghfendpaa
open Go Go.RowKit Go.Shelf W
attribute [local go_sem] Oper.semAt_some
namespace Roll
/-- A window's place. -/
abbrev Win (bs : List UInt8) (n : Nat) := {j : Nat // j + n ≤ bs.length}
def encW (bs : List UInt8) (n : Nat) (j : Win bs n) : Array Value := enc (j.1, of ((bs.drop j.1).take n))
set_option maxRecDepth 100000 in
set_option maxHeartbeats 2000000 in
theorem windows1_inK (m : Nat) (hm : 1 ≤ m) (l Bn Bb n₀ : Nat) (A₀ : Option Addr) (c n : Nat) (bs : List UInt8) (hs : bs.length ≤ 1099511627776) (hc : bs.length ≤ c) (hcm : c ≤ maxLen) (hn1 : 1 ≤ n) (hn2 : n ≤ bs.length)
    (Kp : World → World → Prop) (kr : ∀ W, Kp W W) (kt : ∀ {A B C : World}, Kp A B → Kp B C → Kp A C) (m₀ : Nat) (kg : ∀ {A B : World}, Gr A B → m₀ ≤ A.heap.size → Kp A B) (ks : ∀ {A B : World}, Kp A B → A.heap.size ≤ B.heap.size)
    (kn : ∀ {A B : World}, Kp A B → B.cell? ⟨Bn, 0, none⟩ = A.cell? ⟨Bn, 0, none⟩) (kc : ∀ {A B : World}, Kp A B → B.cell? ⟨Bb, 0, none⟩ = A.cell? ⟨Bb, 0, none⟩) (kb : ∀ {A B : World}, Kp A B → RB A n₀ A₀ bs → RB B n₀ A₀ bs)
    (J Jx : List (Win bs n) → World → Prop) (W : World) (hJ : AbidesFrom W.heap.size J)
    (hY : ∀ pre x W1, J pre W1 → pre.length < bs.length + 1 - n → YieldAt Fence.wide (m - 1) Try.prog l (encW bs n x) W1 fun e W' =>
      (e = .returned (.bool true) ∧ J (pre ++ [x]) W' ∧ Kp W1 W') ∨ (e = .returned (.bool false) ∧ Jx (pre ++ [x]) W'))
    (hn₀ : n₀ ≤ W.heap.size) (hm₀ : m₀ ≤ W.heap.size) (cn : W.cell? ⟨Bn, 0, none⟩ = some (.int .i64 (n : Int))) (cb : W.cell? ⟨Bb, 0, none⟩ = some (.slice A₀ bs.length c)) (hr : RB W n₀ A₀ bs) (h0 : J [] W) :
    CallsIn Fence.wide m Try.prog 55 #[.func (.yield l) #[] #[], .pointer (some ⟨Bn, 0, none⟩), .pointer (some ⟨Bb, 0, none⟩)] W fun e W' => (∃ v, e = .returned v) ∧
      ((∃ ys : List (Win bs n), ys.map (·.1) = List.range (bs.length + 1 - n) ∧ J ys W') ∨ (∃ pre : List (Win bs n), (∃ k, k ≤ bs.length + 1 - n ∧ pre.map (·.1) = List.range k) ∧ Jx pre W')) := by
  have hof := Lib.hid (of_any A₀ c n₀ (bs.take n) W (by simp; omega) hn₀ (hr.take hn2))
  have hro := Lib.hid (fun s o i w => roll_any s n o i w (by omega))
  have hrh := Lib.hid hr
  have hYh := Lib.hid hY
  have hJh := Lib.hid hJ
  clear hr hY hJ
  have g1 : ¬ ((n : Int) < 1) := by omega
  have g2 : ¬ ((bs.length : Int) < (n : Int)) := by omega
  have g3 : (n : Int) ≤ (c : Int) := by omega
  have g4 : 0 ≤ (n : Int) := by omega
  have lt : (bs.take n).length = n := by simp; omega
  rw [lt] at hof
  refine callsIn_of_wp Try.func55 rfl trivial ?_ rfl
  simp only [Try.ntmps55, List.size_toArray, List.length_cons, List.length_nil, Nat.reduceAdd, Nat.reduceSub, Array.replicate_succ, Array.replicate_zero, List.push_toArray, List.append_toArray, List.nil_append, List.cons_append]
  gi_wp2_with (refine ⟨trivial, ?_⟩; gi_at_call 52; refine (callsIn_wide.2 hof.out).mono ?_; clear hof; rintro e W0 ⟨rfl, hg0⟩; have hg0h := Lib.hid hg0; clear hg0)
  gi_loopw [5, 4] (fun i v wr => ∃ k : Nat, k + n ≤ bs.length ∧ i = .int .i64 (k : Int) ∧ v = .int .u32 (n32 (of ((bs.drop k).take n))) ∧ (∃ ys : List (Win bs n), ys.map (·.1) = List.range k ∧ J ys wr) ∧ Kp W wr)
    (fun i _ _ => bs.length - (intOf i).toNat)
  case atStart => exact ⟨0, by omega, rfl, by simp, ⟨[], rfl, hJh.out _ _ _ none h0 (gr_grown hg0h.out) (by simp)⟩, kg hg0h.out hm₀⟩
  case round =>
    obtain ⟨k, hk, rfl, rfl, ⟨ys, hys, hJs⟩, hnx⟩ := hrel
    have hyl : ys.length = k := by have := congrArg List.length hys; simpa using this
    have hcn := fun w' (h : Kp wr w') => (kn (kt hnx h)).trans cn
    have hcb := fun w' (h : Kp wr w') => (kc (kt hnx h)).trans cb
    obtain ⟨fn, tmps, assign, body, hy, hR⟩ := hYh.out ys ⟨k, hk⟩ wr hJs (by rw [hyl]; omega)
    dsimp only [encW, enc] at hy
    have hys' : (ys ++ [(⟨k, hk⟩ : Win bs n)]).map (·.1) = List.range (k + 1) := by rw [List.map_append, hys, List.range_succ]; rfl
    replace hys' := Lib.hid hys'
    gi_wp2
    refine hR.mono ?_
    rintro e W3 (⟨rfl, hJ3, hk3⟩ | ⟨rfl, hJx3⟩)
    · have cn3 := hcn W3 hk3
      have cb3 := hcb W3 hk3
      have hr3 := kb (kt hnx hk3) hrh.out
      by_cases hlt : k + n = bs.length
      · have e1 : ((n : Int) == (bs.length : Int) - (k : Int)) = true := by simp; omega
        gi_wp2
        refine bodyPost_ret (results_none rfl _ _ _) rfl ?_
        refine ⟨⟨_, rfl⟩, .inl ⟨_, ?_, hJ3⟩⟩
        rw [show bs.length + 1 - n = k + 1 from by omega]
        exact hys'.out
      · have e1 : ((n : Int) == (bs.length : Int) - (k : Int)) = false := by simp; omega
        obtain ⟨ad, rfl, hadb, hc1⟩ := hr3.at_ (k := k) (by omega)
        obtain ⟨ad2, e2, _, hc2⟩ := hr3.at_ (k := k + n) (by omega)
        obtain rfl := Option.some.inj e2
        have hc2' : W3.cell? (ad.add ((k : Int) + (n : Int)).toNat) = some (.int .u8 (n8 (bs[k + n]'(by omega)))) := by rw [show ((k : Int) + (n : Int)).toNat = k + n from by omega]; exact hc2
        have k1 : IntKind.i64.wrap ((k : Int) + (n : Int)) = (k : Int) + (n : Int) := IntWalk.i64_in _ (by omega)
        have k2 : 0 ≤ (k : Int) + (n : Int) := by omega
        have k3 : (k : Int) + (n : Int) < (bs.length : Int) := by omega
        have k4 : 0 ≤ (k : Int) := by omega
        have k5 : (k : Int) < (bs.length : Int) := by omega
        have k6 : (k : Int).toNat = k := by omega
        have hz3 : m₀ ≤ W3.heap.size := Nat.le_trans hm₀ (ks (kt hnx hk3))
        clear hr3 e2
        gi_wp2
        refine wpIn_wide.2 ?_
        go_quiet ((go_at_call 56; refine (hro.out _ _ _ _).mono ?_; rintro e w' ⟨rfl, rfl⟩; exact ⟨rfl, _, rfl⟩))
        rename_i nq
        rw [roll_next bs n k hn1 (by omega) _ _ (List.getElem?_eq_getElem (by omega)) (List.getElem?_eq_getElem (by omega))]
        clear hc1 hc2 hc2' cb3 cn3
        gi_wp2
        go_roundw
        case rel =>
          exact ⟨k + 1, by omega, by simp, rfl, ⟨_, hys'.out, hJh.out _ _ _ none hJ3 (gr_grown (below_drewN (Below.refl _ _) _)) (by simp)⟩, kt (kt hnx hk3) (kg (below_drewN (Below.refl _ _) _) hz3)⟩
        case measure => simp [intOf]; omega
    · gi_wp2
      go_end0
      exact ⟨⟨_, rfl⟩, .inr ⟨_, ⟨k + 1, by omega, hys'.out⟩, hJx3⟩⟩

set_option maxRecDepth 100000 in
set_option maxHeartbeats 1000000 in
theorem windows1_badK {α : Type} (m : Nat) (l Bn Bb : Nat) (A : Option Addr) (c len : Nat) (n : Int) (hn : n < 1 ∨ (len : Int) < n) (J : List α → World → Prop) (W : World)
    (cn : W.cell? ⟨Bn, 0, none⟩ = some (.int .i64 n)) (cb : W.cell? ⟨Bb, 0, none⟩ = some (.slice A len c)) (h0 : J [] W) :
    CallsIn Fence.wide m Try.prog 55 #[.func (.yield l) #[] #[], .pointer (some ⟨Bn, 0, none⟩), .pointer (some ⟨Bb, 0, none⟩)] W fun e W' => (∃ v, e = .returned v) ∧ J [] W' := by
  refine callsIn_of_wp Try.func55 rfl trivial ?_ rfl
  simp only [Try.ntmps55, List.size_toArray, List.length_cons, List.length_nil, Nat.reduceAdd, Nat.reduceSub, Array.replicate_succ, Array.replicate_zero, List.push_toArray, List.append_toArray, List.nil_append, List.cons_append]
  by_cases g1 : n < 1
  · gi_wp2
    refine bodyPost_ret (results_none rfl _ _ _) rfl ?_
    exact ⟨⟨_, rfl⟩, h0⟩
  · have g2 : (len : Int) < n := by omega
    gi_wp2
    refine bodyPost_ret (results_none rfl _ _ _) rfl ?_
    exact ⟨⟨_, rfl⟩, h0⟩

theorem windows_stopsK (m : Nat) (hm : 1 ≤ m) (Bn Bb n₀ : Nat) (A₀ : Option Addr) (c n : Nat) (bs : List UInt8) (hs : bs.length ≤ 1099511627776) (hc : bs.length ≤ c) (hcm : c ≤ maxLen) (hn1 : 1 ≤ n) (w : World)
    (Kp : World → World → Prop) (kr : ∀ W, Kp W W) (kt : ∀ {A B C : World}, Kp A B → Kp B C → Kp A C) (m₀ : Nat) (kg : ∀ {A B : World}, Gr A B → m₀ ≤ A.heap.size → Kp A B) (ks : ∀ {A B : World}, Kp A B → A.heap.size ≤ B.heap.size)
    (kn : ∀ {A B : World}, Kp A B → B.cell? ⟨Bn, 0, none⟩ = A.cell? ⟨Bn, 0, none⟩) (kc : ∀ {A B : World}, Kp A B → B.cell? ⟨Bb, 0, none⟩ = A.cell? ⟨Bb, 0, none⟩) (kb : ∀ {A B : World}, Kp A B → RB A n₀ A₀ bs → RB B n₀ A₀ bs)
    (hBn : Bn < w.heap.size) (hBb : Bb < w.heap.size) (hn₀ : n₀ ≤ w.heap.size) (hm₀ : m₀ ≤ w.heap.size) (cn : w.cell? ⟨Bn, 0, none⟩ = some (.int .i64 (n : Int))) (cb : w.cell? ⟨Bb, 0, none⟩ = some (.slice A₀ bs.length c)) (hr : RB w n₀ A₀ bs) :
    SeqStopsK Fence.wide m Try.prog 55 #[.pointer (some ⟨Bn, 0, none⟩), .pointer (some ⟨Bb, 0, none⟩)] (encW bs n) Kp (fun ys => ys.map (·.1) = List.range (bs.length + 1 - n))
      (fun pre => ∃ k, k ≤ bs.length + 1 - n ∧ pre.map (·.1) = List.range k) (bs.length + 1 - n) w := fun l J Jx W hW hJ hJx hY h0 => by
  have cn' := (hW.cell (p := ⟨Bn, 0, none⟩) hBn).trans cn
  have cb' := (hW.cell (p := ⟨Bb, 0, none⟩) hBb).trans cb
  by_cases h : n ≤ bs.length
  · exact windows1_inK m hm l Bn Bb n₀ A₀ c n bs hs hc hcm hn1 h Kp kr kt m₀ kg ks kn kc kb J Jx W hJ hY (Nat.le_trans hn₀ hW.size) (Nat.le_trans hm₀ hW.size) cn' cb' (hr.below (hW.mono hn₀)) h0
  · refine (windows1_badK (α := Win bs n) m l Bn Bb A₀ c bs.length n (by omega) J W cn' cb' h0).mono ?_
    rintro e' W' ⟨he, hj⟩
    exact ⟨he, .inl ⟨[], by rw [show bs.length + 1 - n = 0 by omega]; rfl, hj⟩⟩
end Roll
end Go.Proofs.Ytgnogoghfendpaa
namespace Go.Proofs.Ytgnogoghfendpaa
open Go Go.RowKit W
namespace Tk
theorem run_neq_tok (T : TypeId) (hT : T = 35 ∨ T = 37) (s t : Tok) (x y : Operand) (w : World) : (do eqGuard .neq T x y (tokV s) (tokV t); binOp .neq T (tokV s) (tokV t) : Sem Value).run Try.prog w = .ok (.bool (decide (s ≠ t))) w := by
  obtain ⟨f, m, d⟩ := s
  obtain ⟨f', m', d'⟩ := t
  rcases hT with rfl | rfl <;> by_cases h1 : f = f' <;> by_cases h2 : m = m' <;> by_cases h3 : d = d' <;> simp [go_sem, tokV, h1, h2, h3]
theorem run_ldTok {T : TypeId} (hT : T = 35 ∨ T = 37) (w : World) (p : Addr) (ad : Addr) (t : Tok) (h0 : w.cell? p = some (.int .i64 t.f)) (h1 : w.cell? ⟨p.block, p.off + 1, none⟩ = some (.int .i64 t.m)) (h2 : w.cell? ⟨p.block, p.off + 2, none⟩ = some (.string ⟨t.d.toArray⟩)) (hp : p = ad) :
    (Instr.loadAt T (.pointer (some ad))).run Try.prog w = .ok (tokV t) w := by
  subst hp
  rcases hT with rfl | rfl <;> simp [Instr.loadAt, go_sem, h0, h1, h2]
theorem take_snoc_eq {l m : List Tok} {k : Nat} (h : k < l.length) (h' : k < m.length) (e : l.take k = m.take k) (e2 : l[k] = m[k]) : l.take (k + 1) = m.take (k + 1) := by
  rw [List.take_succ_eq_append_getElem h, List.take_succ_eq_append_getElem h', e, e2]
theorem ne_at {l m : List Tok} {k : Nat} (h : k < l.length) (h' : k < m.length) (e2 : l[k] ≠ m[k]) : decide (l = m) = false := by
  rw [decide_eq_false_iff_not]
  intro e
  subst e
  exact e2 rfl
end Tk
end Go.Proofs.Ytgnogoghfendpaa
namespace Go.Proofs.Ytgnogoghfendpaa
open Go Go.RowKit W
namespace Tk
theorem two_lit {a t : Tok} (h1 : a.m = 0) (h2 : t.m = 0) (h3 : a.d.length + t.d.length ≤ 16384) : two a t = some ⟨0, 0, a.d ++ t.d⟩ := by unfold two; rw [if_pos ⟨h1, h2, h3⟩]
theorem two_cpy {a t : Tok} (h1 : 0 < a.m) (h2 : 0 < t.m) (h3 : a.f + a.m = t.f) : two a t = some ⟨a.f, a.m + t.m, []⟩ := by unfold two; rw [if_neg (by omega), if_pos ⟨h1, h2, h3⟩]
theorem two_off {a t : Tok} (h1 : ¬ (a.m = 0 ∧ t.m = 0 ∧ a.d.length + t.d.length ≤ 16384)) (h2 : ¬ (0 < a.m ∧ 0 < t.m ∧ a.f + a.m = t.f)) : two a t = none := by unfold two; rw [if_neg h1, if_neg h2]
def JR' (w wr : World) (J : List Tok) (v : Value) : Prop := ∃ A c, v = .slice A J.length c ∧ OT 37 wr w.heap.size (.slice A J.length c) J
end Tk
end Go.Proofs.Ytgnogoghfendpaa
namespace Go.Proofs.Ytgnogoghfendpaa
open Go Go.RowKit W
namespace Tk
def shortB (l : List Tok) : Bool := l.all fun t => decide (t.d.length ≤ 200)
def fewB (l : List Tok) : Bool := decide (l.length ≤ 30) && shortB l
theorem short_snoc (l : List Tok) (k : Nat) (h : k < l.length) (h1 : shortB (l.take k) = true) (h2 : (l[k]).d.length ≤ 200) : shortB (l.take (k + 1)) = true := by
  unfold shortB at *
  rw [List.take_succ_eq_append_getElem h, List.all_append, h1]
  simp [h2]
theorem short_bad (l : List Tok) (k : Nat) (h : k < l.length) (h2 : ¬ (l[k]).d.length ≤ 200) : shortB l = false := by
  unfold shortB
  rw [List.all_eq_false]
  exact ⟨l[k], List.getElem_mem h, by simpa using h2⟩
theorem TR.newN (w : World) (t : TypeId) (l : List Tok) (cs : Array Value) (h : cs.toList = tcs l) : TR (w.alloc (.cells cs t)) (w.heap.size + 1) (some ⟨w.heap.size, 0, none⟩) l := by
  refine ⟨tcs_len l, fun _ => ⟨_, rfl, Nat.lt_succ_self _, fun j u hu => ?_⟩⟩
  have ha : (⟨w.heap.size, 0, none⟩ : Addr).add j = ⟨w.heap.size, j, none⟩ := by unfold Addr.add; split <;> simp_all
  rw [ha, (Blk.new w t _).cell]
  rw [← h] at hu
  simpa using hu
def ex5 : List Tok := [⟨0, 1, []⟩, ⟨1, 1, []⟩, ⟨0, 0, [97]⟩, ⟨0, 0, [98]⟩, ⟨5, 1, []⟩]
def ex3 : List Tok := [⟨0, 2, []⟩, ⟨0, 0, [97, 98]⟩, ⟨5, 1, []⟩]
theorem ex_join : join ex5 = ex3 := by decide +kernel
theorem ex_fits : Fits ex5 := ⟨by decide, by unfold ex5 Fit; simp⟩
theorem ex3_fits : Fits ex3 := ⟨by decide, by unfold ex3 Fit; simp⟩
theorem ex_bytes : bytes ex3 = 2 := by decide +kernel
end Tk
end Go.Proofs.Ytgnogoghfendpaa
namespace Go.Proofs.Ytgnogoghfendpaa
open Go Go.RowKit W
namespace Tk
theorem tcs_takeN (l : List Tok) : ∀ k, tcs (l.take k) = (tcs l).take (k * 3) := by
  induction l with
  | nil => intro k; simp [tcs]
  | cons t l ih =>
    intro k
    cases k with
    | zero => simp [tcs]
    | succ k =>
      rw [List.take_succ_cons, show t :: l.take k = [t] ++ l.take k from rfl, show t :: l = [t] ++ l from rfl, tcs_append, tcs_append, ih, tcs_one, Nat.succ_mul, Nat.add_comm, List.take_append, tc_len, List.take_of_length_le (l := tc t) (by rw [tc_len]; omega), show 3 + k * 3 - 3 = k * 3 by omega]
theorem tcs_dropN (l : List Tok) : ∀ k, tcs (l.drop k) = (tcs l).drop (k * 3) := by
  induction l with
  | nil => intro k; simp [tcs]
  | cons t l ih =>
    intro k
    cases k with
    | zero => simp [tcs]
    | succ k =>
      rw [List.drop_succ_cons, show t :: l = [t] ++ l from rfl, tcs_append, ih, tcs_one, Nat.succ_mul, Nat.add_comm, List.drop_append, tc_len, List.drop_eq_nil_of_le (show (tc t).length ≤ 3 + k * 3 by rw [tc_len]; omega), List.nil_append, show 3 + k * 3 - 3 = k * 3 by omega]
theorem TR.take {w : World} {B : Nat} {A : Option Addr} {l : List Tok} (h : TR w B A l) {k : Nat} (hk : k ≤ l.length) : TR w B A (l.take k) := by
  unfold TR
  rw [List.length_take_of_le hk, tcs_takeN]
  exact Reads.take h hk
theorem TR.drop {w : World} {B c : Nat} {A : Option Addr} {l : List Tok} (h : TR w B A l) {k : Nat} (hk : k ≤ l.length) (hc : l.length ≤ c) : TR w B (if c = k then A else A.map (·.add (k * 3))) (l.drop k) := by
  unfold TR
  rw [List.length_drop, tcs_dropN]
  exact Reads.cut h hk hc
theorem run_rows_hi {P : Program} (w : World) {T E : TypeId} {size : Nat} (hT : P.underlying T = some (.slice E)) (hi : (P.info? E).map (·.size) = some size) (A : Option Addr) (n c k : Nat) (hk : k ≤ n) (hc : n ≤ c) :
    (Instr.sliceAt T (.slice A n c) none (some (.int .i64 (k : Int))) none).run P w = .ok (.slice A k c) w := by
  obtain ⟨i, hi', rfl⟩ : ∃ i, P.info? E = some i ∧ i.size = size := by
    cases h : P.info? E with
    | none => simp [h] at hi
    | some i => exact ⟨i, rfl, by simpa [h] using hi⟩
  have h2 : (k : Int) ≤ (c : Int) := by omega
  have hk' : k ≤ c := by omega
  have e : A.map (·.add 0) = A := by cases A <;> simp [Addr.add]
  simp [Instr.sliceAt, Instr.slice, Instr.sliceBounds, Instr.sliceBound, run_underlying hT, sizeOf, typeInfo, hi', asIntOf, hk', hk, e]
theorem run_rows_lo {P : Program} (w : World) {T E : TypeId} {size : Nat} (hT : P.underlying T = some (.slice E)) (hi : (P.info? E).map (·.size) = some size) (A : Option Addr) (n c k : Nat) (hk : k ≤ n) :
    (Instr.sliceAt T (.slice A n c) (some (.int .i64 (k : Int))) none none).run P w = .ok (.slice (if c = k then A else A.map (·.add (k * size))) (n - k) (c - k)) w := by
  obtain ⟨i, hi', rfl⟩ : ∃ i, P.info? E = some i ∧ i.size = size := by
    cases h : P.info? E with
    | none => simp [h] at hi
    | some i => exact ⟨i, rfl, by simpa [h] using hi⟩
  have h2 : (k : Int) ≤ (n : Int) := by omega
  simp [Instr.sliceAt, Instr.slice, Instr.sliceBounds, Instr.sliceBound, run_underlying hT, sizeOf, typeInfo, hi', asIntOf, hk]
theorem fits_take {l : List Tok} (h : Fits l) (k : Nat) : Fits (l.take k) := ⟨by rw [List.length_take]; have := h.1; omega, fun t ht => h.2 t (List.mem_of_mem_take ht)⟩
theorem fits_drop {l : List Tok} (h : Fits l) (k : Nat) : Fits (l.drop k) := ⟨by rw [List.length_drop]; have := h.1; omega, fun t ht => h.2 t (List.mem_of_mem_drop ht)⟩
theorem join_len (l : List Tok) : (join l).length ≤ l.length := by have := fold_len l []; simpa [join] using this
theorem fits_join (l : List Tok) (h : l.length ≤ 1099511627776) : Fits (join l) := ⟨Nat.le_trans (join_len l) h, fun t ht => (right_fit (join_all l t ht)).1⟩
theorem fits_app {l m : List Tok} (h : Fits l) (h' : Fits m) (hs : l.length + m.length ≤ 1099511627776) : Fits (l ++ m) := ⟨by rw [List.length_append]; exact hs, fun t ht => by
  rcases List.mem_append.1 ht with h1 | h1
  · exact h.2 t h1
  · exact h'.2 t h1⟩
theorem join_out (A : Option Addr) (c : Nat) (l : List Tok) (w : World) (hl : TR w w.heap.size A l) (hf : Fits l) (hk40 : l.length ≤ 1000000) :
    Calls Try.prog 50 #[.slice A l.length c] w (OutT 35 w (join l)) :=
  (join_any A c l w hl hf hk40).mono fun e w' ⟨⟨A', c', hv, ho⟩, ⟨v, he⟩, hg⟩ => by
    subst he
    obtain rfl : v = .slice A' (join l).length c' := hv
    exact ⟨A', c', rfl, ho, hg⟩
/-- The numbers and lengths lie in their ranges. -/
def Bnd (t : Tok) : Prop := -9223372036854775808 ≤ t.f ∧ t.f ≤ 9223372036854775807 ∧ -9223372036854775808 ≤ t.m ∧ t.m ≤ 9223372036854775807 ∧ t.d.length ≤ maxLen
theorem few_fits {l : List Tok} (h : fewB l = true) (hb : ∀ t ∈ l, Bnd t) : l.length ≤ 30 ∧ Fits l ∧ bytes l ≤ 6000 := by
  unfold fewB shortB at h
  rw [Bool.and_eq_true, decide_eq_true_eq, List.all_eq_true] at h
  obtain ⟨h1, h2⟩ := h
  have h2' : ∀ t ∈ l, t.d.length ≤ 200 := fun t ht => by simpa using h2 t ht
  refine ⟨h1, ⟨by omega, fun t ht => ?_⟩, ?_⟩
  · obtain ⟨b1, b2, b3, b4, _⟩ := hb t ht
    exact ⟨b1, b2, b3, b4, by have := h2' t ht; omega⟩
  · have : bytes l ≤ l.length * 200 := by
      clear h1 h2 hb
      induction l with
      | nil => simp [bytes]
      | cons t l ih =>
        have := ih (fun x hx => h2' x (by simp [hx]))
        have ht := h2' t (by simp)
        rw [show t :: l = [t] ++ l from rfl, bytes_append, bytes_one, List.length_append, List.length_singleton]
        split <;> omega
    omega
theorem same_self (J : List Tok) : decide (J = J) = true := by simp
theorem pick_k (n : Nat) (b : UInt8) : ∃ k, k ≤ n ∧ (0 < n → (n8 b).tmod ((n : Int) + 1) = (k : Int)) ∧ (n = 0 → k = 0) := by
  refine ⟨b.toNat % (n + 1), by have := Nat.mod_lt b.toNat (show 0 < n + 1 by omega); omega, fun _ => ?_, fun h => by subst h; exact Nat.mod_one _⟩
  show ((b.toNat : Nat) : Int).tmod ((n : Int) + 1) = _
  rw [Int.tmod_eq_emod_of_nonneg (by omega), Int.natCast_emod]
  rfl
end Tk
end Go.Proofs.Ytgnogoghfendpaa
namespace Go.Proofs.Ytgnogoghfendpaa
open Go Go.RowKit Go.Shelf W Sg Tk
theorem KT2.own {t u : TypeId} {w X Y : World} {row : Option Nat} (h : KT2 t u w X) (hg : X.grownBy Y row) {B : Nat} (hB : w.heap.size ≤ B) (hr : ∀ r, row = some r → B ≤ r) : KT2 t u w Y :=
  ⟨(World.grownBy.os hg).trans h.os, (World.grownBy.tape hg).trans h.tape, (World.grownBy.output hg).trans h.output, Nat.le_trans h.size (World.grownBy.size hg), fun k o h1 h2 => by
    have hk := h.block k o h1 h2
    exact (World.grownBy.block hg k (lt_heap hk) (fun e => by have := hr k e.symm; have := lt_heap h1; omega)).trans hk⟩
theorem KT2.set {t u : TypeId} {w X : World} (h : KT2 t u w X) {B : Nat} (hB : w.heap.size ≤ B) (i : Nat) (v : Value) : KT2 t u w (X.setCell ⟨B, i, none⟩ v) :=
  ⟨h.os, h.tape, h.output, by simpa using h.size, fun k o h1 h2 => (Below.heap_setCell X ⟨B, i, none⟩ v k (by have := lt_heap h1; show k ≠ B; omega)).trans (h.block k o h1 h2)⟩
theorem KT2.others {t u : TypeId} {X Y : World} (h : KT2 t u X Y) : KeepsOthers X Y := ⟨h.size, fun k o h1 h2 => h.block k o h1 (fun cs fr => ⟨fun e => (by subst e; cases h2), fun e => (by subst e; cases h2)⟩)⟩
/-- The mark that a range over a function leaves. -/
def mark (D : Nat) : Deferred := { target := .collected D, args := #[] }
def Marks (B : Nat) (Ds : List Nat) (W : World) : Prop := Ds.Nodup ∧ ∀ D ∈ Ds, B ≤ D ∧ W.heap[D]? = some (.deferred (some []))
theorem Marks.keep {B : Nat} {Ds : List Nat} {X Y : World} (h : Marks B Ds X) (k : KeepsOthers X Y) : Marks B Ds Y := ⟨h.1, fun D hD => ⟨(h.2 D hD).1, k.same D _ (h.2 D hD).2 rfl⟩⟩
theorem Marks.lt {B : Nat} {Ds : List Nat} {X : World} (h : Marks B Ds X) : ∀ D ∈ Ds, D < X.heap.size := fun D hD => lt_heap (h.2 D hD).2
theorem Marks.cons {B : Nat} {Ds : List Nat} {Y : World} (h : Marks B Ds Y) {D : Nat} (hD : ∀ D' ∈ Ds, D' < D) (hB : B ≤ D) (hn : Y.heap[D]? = some (.deferred (some []))) : Marks B (D :: Ds) Y :=
  ⟨List.nodup_cons.2 ⟨fun hm => by have := hD D hm; omega, h.1⟩, fun D' hm => by
    rcases List.mem_cons.1 hm with rfl | hm
    · exact ⟨hB, hn⟩
    · exact h.2 D' hm⟩
theorem Marks.own {B : Nat} {Ds : List Nat} {X Y : World} {row : Option Nat} (h : Marks B Ds X) {B₀ : Nat} (hl : ∀ D ∈ Ds, D < B₀) (hg : X.grownBy Y row) (hr : ∀ r, row = some r → B₀ ≤ r) : Marks B Ds Y :=
  ⟨h.1, fun D hD => ⟨(h.2 D hD).1, (World.grownBy.block hg D (h.lt D hD) (fun e => by have := hr D e.symm; have := hl D hD; omega)).trans (h.2 D hD).2⟩⟩
theorem leaves_marks {F : Fence} {n : Nat} {P : Program} {fn : Func} {tmps : Array Value} {R : Ending → World → Prop} {B : Nat} (K : World → Prop)
    (hK : ∀ (X : World) (D : Nat), K X → B ≤ D → X.heap[D]? = some (.deferred (some [])) → K (X.putObj D (.deferred none))) (hl : ∀ X, K X → LeavesIn F n P fn tmps R [] .returning X) :
    ∀ (Ds : List Nat) (W : World), Marks B Ds W → K W → LeavesInM F n P fn tmps R (Ds.map mark) .returning W := by
  intro Ds
  induction Ds with
  | nil => intro W _ h; exact hl W h
  | cons D Ds ih =>
    intro W hm h
    obtain ⟨h1, h2⟩ := hm.2 D (by simp)
    refine ⟨by simp, .inl ⟨D, _, rfl, run_takeDeferred h2, ih _ ⟨(List.nodup_cons.1 hm.1).2, fun D' hD' => ⟨(hm.2 D' (by simp [hD'])).1, ?_⟩⟩ (hK W D h h1 h2)⟩⟩
    have hne : D' ≠ D := fun e => (List.nodup_cons.1 hm.1).1 (e ▸ hD')
    exact (World.putObj_heap_other hne).trans (hm.2 D' (by simp [hD'])).2
namespace Se
theorem Hn.lt {w : World} {g : Nat} {X : HS} {last : Int} {out : List Tok} (h : Hn w g X last out) : g < w.heap.size := by
  obtain ⟨ov, h1, _⟩ := h
  exact h1.lt
theorem Hn.own {g : Nat} {X : HS} {last : Int} {out : List Tok} {A B : World} {row : Option Nat} (h : Hn A g X last out) (hg : A.grownBy B row) (hr : ∀ r, row = some r → ∃ o : Obj, A.heap[r]? = some o ∧ o.isCells = false) : Hn B g X last out := by
  obtain ⟨ov, h1, h2⟩ := h
  refine ⟨ov, h1.grown hg (fun e => ?_), or_own h2 hg hr⟩
  obtain ⟨o, ho, hc⟩ := hr g e.symm
  have hs' : A.heap[g]? = some (.cells (hcells X last ov) 91 (0, 0)) := h1
  rw [hs'] at ho
  cases ho
  cases hc
theorem Hn.far {w : World} {g : Nat} {X : HS} {last : Int} {out : List Tok} (h : Hn w g X last out) {B : Nat} {t : TypeId} {cs : Array Value} (hb : Blk w B t cs) (h1 : t ≠ 91) (h2 : t ≠ 35) (i : Nat) (v : Value) : Hn (w.setCell ⟨B, i, none⟩ v) g X last out := by
  obtain ⟨ov, q1, q2⟩ := h
  have hne : g ≠ B := fun e => by
    subst e
    have := (show w.heap[g]? = _ from q1).symm.trans (show w.heap[g]? = _ from hb)
    injection this with this
    injection this with _ this _
    exact h1 this.symm
  refine ⟨ov, q1.far (p := ⟨B, i, none⟩) hne v, ⟨q2.1, ?_⟩⟩
  rcases q2.2 with h' | ⟨g', cap, cur, hv, hg, hh, r⟩
  · exact .inl h'
  · refine .inr ⟨g', cap, cur, hv, hg, ?_, r⟩
    refine (Below.heap_setCell w ⟨B, i, none⟩ v g' (fun e => ?_)).trans hh
    have e' : g' = B := e
    subst e'
    have := hh.symm.trans (show w.heap[g']? = _ from hb)
    injection this with this
    injection this with _ this _
    exact h2 this.symm
/-- The search is at a place: w: where the function began; Bh, B: the boxes of its two variables. -/
structure Run (w : World) (g Bh B : Nat) (X : HS) (at_ : Nat) (last : Int) (out : List Tok) (W : World) : Prop where
  hn : Hn W g X last out
  bh : Blk W Bh 77 #[.pointer (some ⟨g, 0, none⟩)]
  bx : Blk W B 3 #[.int .i64 (at_ : Int)]
  ks : KS w W
  bl : Below g w W
theorem Run.gr {w W W' : World} {g Bh B : Nat} {X : HS} {at_ : Nat} {last : Int} {out : List Tok} (h : Run w g Bh B X at_ last out W) (hg : g ≤ w.heap.size) (k : Gr W W') : Run w g Bh B X at_ last out W' :=
  ⟨h.hn.gr k, blk_more h.bh k, blk_more h.bx k, h.ks.trans (KT2.of_gr k), h.bl.trans (Below.mono k (Nat.le_trans hg h.ks.size))⟩
/-- The search does something that leaves all but its own blocks. -/
theorem Run.on {w W W' : World} {g Bh B : Nat} {X : HS} {at_ : Nat} {last last' : Int} {out out' : List Tok} (h : Run w g Bh B X at_ last out W) (hn : Hn W' g X last' out') (k : KS W W') (b : Below g W W') : Run w g Bh B X at_ last' out' W' :=
  ⟨hn, k.blk h.bh (by decide) (by decide), k.blk h.bx (by decide) (by decide), h.ks.trans k, h.bl.trans b⟩
theorem Run.goes {w W : World} {g Bh B : Nat} {X : HS} {at_ : Nat} {last : Int} {out : List Tok} (h : Run w g Bh B X at_ last out W) (hg : g ≤ B) (hw : w.heap.size ≤ B) (hne : Bh ≠ B) (n : Nat) : Run w g Bh B X n last out (W.setCell ⟨B, 0, none⟩ (.int .i64 (n : Int))) :=
  ⟨h.hn.far h.bx (by decide) (by decide) 0 _, h.bh.far (p := ⟨B, 0, none⟩) hne _, h.bx.set_ 0 _, h.ks.set hw 0 _, h.bl.setCell (p := ⟨B, 0, none⟩) hg _⟩
theorem Run.own {w : World} {g Bh B : Nat} {X : HS} {at_ : Nat} {last : Int} {out : List Tok} {U V : World} {row : Option Nat} (h : Run w g Bh B X at_ last out U) (hg : g ≤ w.heap.size) (k : U.grownBy V row) {B₀ : Nat} (hB : w.heap.size ≤ B₀)
    (hr : ∀ r, row = some r → B₀ ≤ r ∧ ∃ o : Obj, U.heap[r]? = some o ∧ o.isCells = false) : Run w g Bh B X at_ last out V := by
  have hne : ∀ {b : Nat} {t : TypeId} {cs : Array Value}, Blk U b t cs → row ≠ some b := fun {b t cs} hb e => by
    obtain ⟨_, o, ho, hc⟩ := hr b e
    have := ho.symm.trans (show U.heap[b]? = _ from hb)
    injection this with this
    rw [this] at hc
    cases hc
  exact ⟨h.hn.own k (fun r e => (hr r e).2), h.bh.grown k (fun e => hne h.bh e.symm), h.bx.grown k (fun e => hne h.bx e.symm), h.ks.own k hB (fun r e => (hr r e).1),
    h.bl.trans (Below.grown (Below.refl g U) k (Nat.le_trans hg h.ks.size) (fun r e => Nat.le_trans (Nat.le_trans hg hB) (hr r e).1))⟩
/-- Was there a window behind the first one? -/
def lastP (last : Int) (pre : List Nat) : Int := if pre.any (fun y => decide (0 < y)) then -1 else last
theorem lastP_snoc (last : Int) (pre : List Nat) (y : Nat) : lastP last (pre ++ [y]) = if 0 < y then -1 else lastP last pre := by
  unfold lastP
  rw [List.any_append]
  by_cases h : 0 < y <;> simp [h]
def winAt (s : Sig) (b : List UInt8) (at_ y : Nat) : Sign := sign ((b.drop (at_ + y)).take s.size.toNat)
/-- None of these windows is a block. -/
def noHit (s : Sig) (b : List UInt8) (at_ : Nat) (last : Int) (pre : List Nat) : Prop := ∀ ini y rest, pre = ini ++ y :: rest → whichP s.bs (winAt s b at_ y) (lastP last (ini ++ [y])) = none
theorem noHit_nil (s : Sig) (b : List UInt8) (at_ : Nat) (last : Int) : noHit s b at_ last [] := fun ini y rest h => by simp at h
theorem noHit_snoc {s : Sig} {b : List UInt8} {at_ : Nat} {last : Int} {pre : List Nat} {y : Nat} (h : noHit s b at_ last pre) (hy : whichP s.bs (winAt s b at_ y) (lastP last (pre ++ [y])) = none) : noHit s b at_ last (pre ++ [y]) := by
  intro ini z rest e
  rcases List.eq_nil_or_concat rest with rfl | ⟨rest', z', rfl⟩
  · have := List.append_inj' e rfl
    obtain ⟨rfl, e2⟩ := this
    obtain rfl : y = z := by simpa using e2
    exact hy
  · rw [List.concat_eq_append, ← List.cons_append, ← List.append_assoc] at e
    exact h ini z rest' (List.append_inj' e rfl).1
theorem noHit_win {s : Sig} {b : List UInt8} {at_ : Nat} {last : Int} {k : Nat} (h : noHit s b at_ last (List.range k)) {i : Nat} (hi : i < k) : winK s b at_ last i = none := by
  have e : List.range k = List.range i ++ i :: (List.range (k - i - 1)).map (fun j => i + 1 + j) := by
    rw [show k = i + (1 + (k - i - 1)) by omega, List.range_add, List.range_add]
    simp [Function.comp_def, Nat.add_assoc]
  have := h _ _ _ e
  unfold winK
  rw [lastP_snoc] at this
  by_cases h0 : i = 0
  · subst h0
    rw [if_neg (by omega)] at this
    rw [if_pos rfl]
    exact this
  · rw [if_pos (by omega)] at this
    rw [if_neg h0]
    exact this
theorem hit_no {s : Sig} {b : List UInt8} {at_ : Nat} {last : Int} (h : noHit s b at_ last (List.range (winN s b at_))) : hit s b at_ last = none := by
  cases e : hit s b at_ last with
  | none => rfl
  | some q =>
    obtain ⟨p, k⟩ := q
    obtain ⟨h1, h2, _⟩ := hit_some e
    rw [noHit_win h h1] at h2
    cases h2
theorem hit_yes {s : Sig} {b : List UInt8} {at_ y k : Nat} {last : Int} (h : noHit s b at_ last (List.range y)) (hy : y < winN s b at_) (hk : whichP s.bs (winAt s b at_ y) (lastP last (List.range y ++ [y])) = some k) : hit s b at_ last = some (y, k) := by
  have hw : winK s b at_ last y = some k := by
    rw [lastP_snoc] at hk
    unfold winK
    by_cases h0 : y = 0
    · subst h0
      rw [if_neg (by omega)] at hk
      rw [if_pos rfl]
      exact hk
    · rw [if_pos (by omega)] at hk
      rw [if_neg h0]
      exact hk
  cases e : hit s b at_ last with
  | none =>
    rw [hit_none e y hy] at hw
    cases hw
  | some q =>
    obtain ⟨p, k'⟩ := q
    obtain ⟨h1, h2, h3⟩ := hit_some e
    rcases Nat.lt_trichotomy p y with hp | hp | hp
    · rw [noHit_win h hp] at h2; cases h2
    · subst hp
      rw [h2] at hw
      cases hw
      rfl
    · rw [h3 y hp] at hw; cases hw
/-- What stands behind the last block that is found. -/
def tailL (s : Sig) (b : List UInt8) (at_ : Nat) : List Tok := if tailP s b at_ then lit b at_ (b.length - s.tail.toNat) ++ [⟨(s.bs.length : Int), 1, []⟩] else lit b at_ b.length
theorem huntF_none {s : Sig} {b : List UInt8} {at_ : Nat} {last : Int} (h : hit s b at_ last = none) (n : Nat) : huntF s b (n + 1) at_ last = tailL s b at_ := by
  unfold huntF
  rw [h]
  rfl
theorem huntF_some {s : Sig} {b : List UInt8} {at_ p k : Nat} {last : Int} (h : hit s b at_ last = some (p, k)) (n : Nat) : huntF s b (n + 1) at_ last = lit b at_ (at_ + p) ++ (⟨(k : Int), 1, []⟩ :: huntF s b n (at_ + p + s.size.toNat) ((k : Int) + 1)) := by
  rw [huntF, h]
theorem lit_len (b : List UInt8) (f t : Nat) : (lit b f t).length ≤ 1 := by
  unfold lit
  split <;> simp
theorem tailL_len (s : Sig) (b : List UInt8) (at_ : Nat) : (tailL s b at_).length ≤ 2 := by
  unfold tailL
  have h1 := lit_len b at_ (b.length - s.tail.toNat)
  have h2 := lit_len b at_ b.length
  split
  · simp; omega
  · omega
theorem huntF_len {s : Sig} {b : List UInt8} (hs : 1 ≤ s.size.toNat) : ∀ (n at_ : Nat) (last : Int), at_ ≤ b.length → (huntF s b n at_ last).length ≤ 2 * (b.length - at_) + 2 := by
  intro n
  induction n with
  | zero => intro at_ last _; simp [huntF]
  | succ n ih =>
    intro at_ last h
    cases e : hit s b at_ last with
    | none => rw [huntF_none e]; have := tailL_len s b at_; omega
    | some q =>
      obtain ⟨p, k⟩ := q
      have h1 := (hit_some e).1
      unfold winN at h1
      rw [huntF_some e]
      have h2 := lit_len b at_ (at_ + p)
      have h3 := ih (at_ + p + s.size.toNat) ((k : Int) + 1) (by omega)
      simp only [List.length_append, List.length_cons]
      omega
theorem lit_right {b : List UInt8} (hb : b.length ≤ 16384) (f t : Nat) (ht : t ≤ b.length) : ∀ x ∈ lit b f t, Tk.right x = true := by
  intro x hx
  unfold lit at hx
  split at hx
  · obtain rfl := List.mem_singleton.1 hx
    have hl : ((b.drop f).take (t - f)).length = t - f := by rw [List.length_take, List.length_drop]; omega
    exact right_lit (by intro h; rw [h] at hl; simp at hl; omega) (by omega)
  · cases hx
theorem copy_right {k : Nat} (hk : k ≤ 4096) : Tk.right (⟨(k : Int), 1, []⟩ : Tok) = true := Tk.right_mk (by simp only; omega) (by simp) (by simp only; omega) (by simp only; omega) (.inl ⟨by simp, rfl⟩)
theorem tailL_right {s : Sig} {b : List UInt8} (hr : Sg.right s = true) (hb : b.length ≤ 16384) (at_ : Nat) : ∀ x ∈ tailL s b at_, Tk.right x = true := by
  intro x hx
  unfold tailL at hx
  have hbs := (Sg.right_spec hr).2.2.1
  split at hx
  · rcases List.mem_append.1 hx with hx | hx
    · exact lit_right hb _ _ (by omega) x hx
    · obtain rfl := List.mem_singleton.1 hx
      exact copy_right hbs
  · exact lit_right hb _ _ (Nat.le_refl _) x hx
theorem huntF_right {s : Sig} {b : List UInt8} (hr : Sg.right s = true) (hb : b.length ≤ 16384) : ∀ (n at_ : Nat) (last : Int), ∀ x ∈ huntF s b n at_ last, Tk.right x = true := by
  have hbs := (Sg.right_spec hr).2.2.1
  have hsz := right_pos hr
  intro n
  induction n with
  | zero => intro at_ last x hx; simp [huntF] at hx
  | succ n ih =>
    intro at_ last x hx
    cases e : hit s b at_ last with
    | none => rw [huntF_none e] at hx; exact tailL_right hr hb _ x hx
    | some q =>
      obtain ⟨p, k⟩ := q
      obtain ⟨h1, h2, _⟩ := hit_some e
      unfold winN at h1
      have hk := (step_pos (show stepP s b (at_ + p) (if p = 0 then last else -1) = some (k, s.size.toNat) by rw [step_win hr (hit_some e).1, h2]; rfl)).2.2
      rw [huntF_some e] at hx
      rcases List.mem_append.1 hx with hx | hx
      · exact lit_right hb _ _ (by omega) x hx
      · rcases List.mem_cons.1 hx with rfl | hx
        · exact copy_right (by omega)
        · exact ih _ _ x hx
end Se
end Go.Proofs.Ytgnogoghfendpaa
namespace Go.Proofs.Ytgnogoghfendpaa
open Go Go.RowKit Go.Shelf W
variable {F : Fence} {n : Nat} {P : Program}
/-- What is said stays said when only block b is written, and more memory is made. -/
def Bears {α : Type} (b : Nat) (J : List α → World → Prop) : Prop := ∀ s A B, J s A → Kb b A B → J s B
/-- The iterator's contract: it may write block b. -/
def SeqB {α : Type} (F : Fence) (n : Nat) (P : Program) (g : Nat) (lb : Array Value) (encs : α → Array Value) (b : Nat) (Kp : World → World → Prop) (S Sp : List α → Prop) (N : Nat) (W : World) : Prop :=
  ∀ (l : Nat) (J Jx : List α → World → Prop), Bears b J → Bears b Jx →
    (∀ pre x W1, J pre W1 → pre.length < N → YieldAt F (n - 1) P l (encs x) W1 fun e W' =>
      (e = .returned (.bool true) ∧ J (pre ++ [x]) W' ∧ Kp W1 W') ∨ (e = .returned (.bool false) ∧ Jx (pre ++ [x]) W')) →
    J [] W → CallsIn F n P g (#[.func (.yield l) #[] #[]] ++ lb) W fun e W' => (∃ v, e = .returned v) ∧ ((∃ xs, S xs ∧ J xs W') ∨ (∃ pre, Sp pre ∧ Jx pre W'))
/-- The loop's two records, at d and behind it. -/
structure Booked (W : World) (d : Nat) (r : Loop) : Prop where
  hd : W.heap[d]? = some (.deferred (some []))
  hl : W.heap[d + 1]? = some (.loop r)
theorem Booked.bears {A B : World} {d b : Nat} {r : Loop} (h : Booked A d r) (k : Kb b A B) (hb : b < d) : Booked B d r :=
  ⟨(World.grownBy.block k d (Array.getElem?_eq_some_iff.1 h.hd).1 (by simp; omega)).trans h.hd,
   (World.grownBy.block k (d + 1) (Array.getElem?_eq_some_iff.1 h.hl).1 (by simp; omega)).trans h.hl⟩
theorem Booked.put {W : World} {d : Nat} {r : Loop} (h : Booked W d r) (r' : Loop) : Booked (W.putObj (d + 1) (.loop r')) d r' :=
  ⟨(World.putObj_heap_other (by omega)).trans h.hd, World.putObj_heap_same (Array.getElem?_eq_some_iff.1 h.hl).1⟩
theorem Booked.keeps {A B : World} {d : Nat} {r : Loop} (h : Booked A d r) (k : KeepsFrom d A B) : Booked B d r :=
  ⟨k.same _ _ (Nat.le_refl _) h.hd rfl, k.same _ _ (by omega) h.hl rfl⟩
theorem wpIn_rangeBox {α : Type} {g : Operand} {ps : Array Tmp} {assign body : Code} {Q : Exit → Act → World → Prop} {a : Act} {w : World} {b : Nat} (hbw : b < w.heap.size)
    (hro : F.round = none) (h1 : 1 ≤ n) {gf : Nat} {lb : Array Value} (hg : a.eval g = .func (.func gf) #[] lb) (hFg : F.fn gf) (eg : ∀ args w, (callFunc gf args).run P w = .ok (.enter gf args) w)
    {encs : α → Array Value} {Kp : World → World → Prop} {S Sp : List α → Prop} {N : Nat} (hseq : ∀ W, Below w.heap.size w W → SeqB F (n - 1) P gf lb encs b Kp S Sp N W)
    (hKt : ∀ {A B C : World}, Kp A B → Kp B C → Kp A C) (hKb : ∀ (W : World) (l : Nat) (o : Obj), w.heap.size ≤ l → Kp W (W.putObj l o)) (hps : ∀ x, (encs x).size = ps.size)
    (I : List α → World → Prop) (Ix : Code → List α → World → Prop) (hI : OwnFrom w.heap.size I) (hIx : ∀ c, OwnFrom w.heap.size (Ix c)) (hB : Bears b I) (hBx : ∀ c, Bears b (Ix c)) (h0 : I [] w) (a₁ : α → Act)
    (hassign : ∀ (l : Nat) (x : α) (W : World) (K : Act → World → Prop), K (a₁ x) W →
      assign.wpIn (F.inRound l) (n - 1 - 1) P (Exit.then K (fun _ _ _ => False)) { tmps := (ps.zip (encs x)).foldl (fun t (p, v) => t.setIfInBounds p v) a.tmps, defers := [] } W)
    (hbody : ∀ (l : Nat) (pre : List α) (x : α) (W : World), I pre W → pre.length < N → body.wpIn (F.inRound l) (n - 1 - 1) P (ownPostG w.heap.size Kp I Ix (pre ++ [x]) W) (a₁ x) W)
    (hdone : ∀ (D : Nat) (xs : List α) (W : World), w.heap.size ≤ D → S xs → I xs W → W.heap[D]? = some (.deferred (some [])) → Q .normal { a with defers := { target := .collected D, args := #[] } :: a.defers } W)
    (hstop : ∀ (D : Nat) (c : Code) (pre : List α) (W : World), w.heap.size ≤ D → Sp pre → Ix c pre W → W.heap[D]? = some (.deferred (some [])) → c.wpIn F n P Q { a with defers := { target := .collected D, args := #[] } :: a.defers } W) :
    (Code.rangeFunc g ps assign body).wpIn F n P Q a w := by
  refine wpIn_rangeFunc fun fn hfn => ?_
  rw [hro]
  obtain ⟨d, hd⟩ : ∃ d, w.heap.size = d := ⟨_, rfl⟩
  obtain ⟨R, hR⟩ : ∃ R : LoopState → Option Code → Loop, R = fun st pe => { state := st, pending := pe, fn, tmps := a.tmps, params := ps, assign, body, defers := d } := ⟨_, rfl⟩
  have grow : Below w.heap.size w ((w.alloc (.deferred (some []))).alloc (.loop (R .ready none))) := ((Below.refl _ w).alloc (Nat.le_refl _) _).alloc (by simp) _
  have book : Booked ((w.alloc (.deferred (some []))).alloc (.loop (R .ready none))) d (R .ready none) := by
    refine ⟨?_, ?_⟩
    · rw [← hd]
      exact (Below.heap_alloc _ _ _ (by simp)).trans (World.alloc_heap_new w _)
    · have h := World.alloc_heap_new (w.alloc (.deferred (some []))) (.loop (R .ready none))
      rw [World.size_alloc, hd] at h
      exact h
  have start : I [] ((w.alloc (.deferred (some []))).alloc (.loop (R .ready none))) := hI.alloc _ (hI.alloc _ h0)
  have enter : (Instr.enterLoop fn a.tmps ps assign body none).run P w = .ok (w.heap.size + 1, [{ target := .collected w.heap.size, args := #[] }]) ((w.alloc (.deferred (some []))).alloc (.loop (R .ready none))) := by
    rw [hR, ← hd]
    exact run_enterLoop_outer _ _ _ _ _
  generalize (w.alloc (.deferred (some []))).alloc (.loop (R .ready none)) = V at grow book start enter
  have turnI : ∀ {s : List α} {W : World} {r : Loop} (r' : Loop), I s W → Booked W d r → I s (W.putObj (d + 1) (.loop r')) := fun r' hi hk => hI.putObj _ hi (by omega) hk.hl rfl
  have turnX : ∀ {c : Code} {s : List α} {W : World} {r : Loop} (r' : Loop), Ix c s W → Booked W d r → Ix c s (W.putObj (d + 1) (.loop r')) := fun r' hi hk => (hIx _).putObj _ hi (by omega) hk.hl rfl
  rw [hd] at enter
  refine ⟨d + 1, [{ target := .collected d, args := #[] }], V, { target := .fn (.func gf) lb, args := #[.func (.yield (d + 1)) #[] #[]] }, V, gf, #[.func (.yield (d + 1)) #[] #[]] ++ lb, V, enter,
    by simp only [resolve, hg]; simp [go_sem], fun f' hf' => by simp [Target.leads] at hf'; subst hf'; exact hFg, by simp [invoke, go_sem, eg], fun _ => h1, ?_⟩
  refine (hseq V grow (d + 1) (fun s W => I s W ∧ Booked W d (R .ready none)) (fun s W => ∃ c, Ix c s W ∧ Booked W d (R .done (some c)))
    (fun s A B h k => ⟨hB s A B h.1 k, h.2.bears k (by omega)⟩)
    (fun s A B ⟨c, hc, hk⟩ k => ⟨c, hBx c s A B hc k, hk.bears k (by omega)⟩) ?_ ⟨start, book⟩).mono ?_
  · rintro pre x W ⟨hi, hk⟩ hN
    have yields := run_yield (P := P) (args := encs x) hk.hl (by rw [hR]; exact hps x)
    rw [hR] at yields
    have begins := run_beginRound (P := P) hk.hl (by rw [hR])
    refine ⟨fn, _, assign, body, yields, roundIn_of_wpIn hfn (hassign _ x W _ ⟨_, begins, ?_⟩)⟩
    have busy := hk.put { R .ready none with state := .busy }
    have close : ∀ (j : Option Code) (Y : World), Booked Y d { R .ready none with state := .busy } →
        (Instr.endRound (d + 1) j).run P Y = .ok (.bool j.isNone) (Y.putObj (d + 1) (.loop (R (if j.isNone then .ready else .done) j))) := fun j Y hy => by
      have h := run_endRound (P := P) j hy.hl
      rw [hR] at h ⊢
      exact h
    have leave : ∀ (c : Code) (Y : World), KeepsFrom w.heap.size (W.putObj (d + 1) (.loop { R .ready none with state := .busy })) Y → Ix c (pre ++ [x]) Y →
        ∃ v W', (Instr.endRound (d + 1) (some c)).run P Y = .ok v W' ∧ ((Ending.returned v = .returned (.bool true) ∧ (I (pre ++ [x]) W' ∧ Booked W' d (R .ready none)) ∧ Kp W W') ∨ (Ending.returned v = .returned (.bool false) ∧ ∃ c, Ix c (pre ++ [x]) W' ∧ Booked W' d (R .done (some c)))) := fun c Y k3 hx => by
      have hy := busy.keeps (hd ▸ k3)
      exact ⟨_, _, close (some c) Y hy, .inr ⟨rfl, c, turnX _ hx hy, hy.put _⟩⟩
    refine wpIn_mono (hbody _ pre x _ (turnI _ hi hk) hN) fun e a3 Y hp => ?_
    cases e with
    | normal =>
      obtain ⟨k3, kp3, hi3⟩ := hp
      have hy := busy.keeps (hd ▸ k3)
      exact ⟨_, _, close none Y hy, .inl ⟨rfl, ⟨turnI _ hi3 hy, hy.put _⟩, hKt (hKt (hKb _ _ _ (by omega)) kp3) (hKb _ _ _ (by omega))⟩⟩
    | ret => exact leave .ret Y hp.1 hp.2
    | exit id => exact leave (.exit id) Y hp.1 hp.2
    | goto t => exact leave (.goto t) Y hp.1 hp.2
    | panic ch => exact hp.elim
    | outgrown => exact hp.elim
  · rintro e Y ⟨⟨v, rfl⟩, (⟨xs, hS, hi, hk⟩ | ⟨pre, hSp, c, hi, hk⟩)⟩
    · have ends := run_endLoop (P := P) hk.hl (by rw [hR]; simp)
      rw [hR] at ends
      exact ⟨none, _, ends, hdone d xs _ (by omega) hS (turnI _ hi hk) ((World.putObj_heap_other (by omega)).trans hk.hd)⟩
    · have ends := run_endLoop (P := P) hk.hl (by rw [hR]; simp)
      rw [hR] at ends
      exact ⟨some c, _, ends, hstop d c pre _ (by omega) hSp (turnX _ hi hk) ((World.putObj_heap_other (by omega)).trans hk.hd)⟩
end Go.Proofs.Ytgnogoghfendpaa
namespace Go.Proofs.Ytgnogoghfendpaa
open Go Go.RowKit Go.Shelf W Sg Tk
attribute [local go_sem] Oper.semAt_some
namespace Se
theorem range_snoc_eq {ini : List Nat} {y j : Nat} (e : ini ++ [y] = List.range j) : ini = List.range y := by
  have hl := congrArg List.length e
  rw [List.length_append, List.length_range, List.length_singleton] at hl
  subst hl
  rw [List.range_succ] at e
  obtain ⟨h1, h2⟩ := List.append_inj' e rfl
  obtain rfl : y = ini.length := by simpa using h2
  exact h1
theorem which_ltS {bs : List Sign} {x : Sign} {next : Int} {k : Nat} (h : whichP bs x next = some k) : k < bs.length := by
  unfold whichP at h
  split at h
  · rename_i hn
    have := (List.getElem?_eq_some_iff.1 hn.2).1
    injection h with h
    omega
  · exact (List.findIdx?_eq_some_iff_getElem.1 h).1
def isBg (g : Nat) (l : List UInt8) : Ass := fun v w => ∃ A c, v = .slice A l.length c ∧ l.length ≤ c ∧ c ≤ maxLen ∧ g ≤ w.heap.size ∧ RB w g A l
theorem isBg_lasts (g : Nat) (l : List UInt8) : Lasts (isBg g l) := fun w w' v hg h => by
  obtain ⟨A, c, e, h1, h2, h3, h4⟩ := h
  exact ⟨A, c, e, h1, h2, Nat.le_trans h3 hg.size, h4.below (Below.mono hg h3)⟩
theorem res_slice1g {P : Program} {w : World} {T E : TypeId} {o : Oper} {a : Act} {A : Option Addr} {l : List UInt8} {c f g : Nat} {k : IntKind} (x y : Operand) (hT : P.underlying T = some (.slice E)) (hE : (P.info? E).map (·.size) = some 1) (ho : o.op = .slice T x (some y) none none)
    (h1 : a.eval x = .slice A l.length c) (h2 : a.eval y = .int k (f : Int)) (hft : f ≤ l.length) (hc : l.length ≤ c) (hcm : c ≤ maxLen) (hg : g ≤ w.heap.size) (hr : RB w g A l) :
    Res P (execOp a.eval o) (isBg g (l.drop f)) w := by
  obtain ⟨i0, q0, q1⟩ := Option.map_eq_some_iff.1 hE
  obtain ⟨run, hd⟩ := run_slice_lo (P := P) (w := w) hT q0 q1 hr hc k f hft
  refine .here (v := .slice (if c = f then A else A.map (·.add f)) (l.drop f).length (c - f)) ?_ ⟨_, _, rfl, by rw [List.length_drop]; omega, by omega, hg, hd⟩
  simp only [execOp, ho, h1, Option.map_some, Option.map_none, h2]
  rw [Sem.run_bind, run]
  rfl
def isWin (g n : Nat) (l : List UInt8) : Ass := fun v w => ∃ (Bn Bb : Nat) (A : Option Addr) (c : Nat), v = .func (.func 55) #[] #[.pointer (some ⟨Bn, 0, none⟩), .pointer (some ⟨Bb, 0, none⟩)] ∧
  Blk w Bn 3 #[.int .i64 (n : Int)] ∧ Blk w Bb 22 #[.slice A l.length c] ∧ l.length ≤ c ∧ c ≤ maxLen ∧ g ≤ w.heap.size ∧ RB w g A l
theorem isWin_lasts (g n : Nat) (l : List UInt8) : Lasts (isWin g n l) := fun w w' v hg h => by
  obtain ⟨Bn, Bb, A, c, e, h1, h2, h3, h4, h5, h6⟩ := h
  exact ⟨Bn, Bb, A, c, e, blk_more h1 hg, blk_more h2 hg, h3, h4, Nat.le_trans h5 hg.size, h6.below (Below.mono hg h5)⟩
def placeOf (B : Nat) (W : World) : Nat := match W.cell? ⟨B, 0, none⟩ with
  | some v => (intOf v).toNat
  | none => 0
/-- At the loop's head; behind the loop. -/
def Head (w : World) (g Bh B : Nat) (X : HS) (L : List Tok) (W : World) (Ds : List Nat) (at_ : Nat) : Prop := ∃ (n : Nat) (last : Int) (out : List Tok), at_ ≤ X.b.length ∧ X.b.length < at_ + n ∧ out ++ huntF X.s X.b n at_ last = L ∧ Run w g Bh B X at_ last out W ∧ Marks w.heap.size Ds W
def Foot (w : World) (g Bh B : Nat) (X : HS) (L : List Tok) (W : World) (Ds : List Nat) (at_ : Nat) : Prop := ∃ (last : Int) (out : List Tok), at_ ≤ X.b.length ∧ out ++ tailL X.s X.b at_ = L ∧ Run w g Bh B X at_ last out W ∧ Marks w.heap.size Ds W
set_option maxRecDepth 100000 in
set_option maxHeartbeats 8000000 in
theorem run_any (g mb sz tl : Nat) (X : HS) (w : World) (h : Hn w g X (-1) []) (hmp : X.mp = .map (some mb)) (hwm : WM w mb X.s.bs) (hsr : SR w g X.A1 X.s.bs) (hrb : RB w g X.Ab X.b) (hcb : X.b.length ≤ X.cb ∧ X.cb ≤ maxLen)
    (hbl : X.b.length ≤ 16384) (hrt : Sg.right X.s = true) (hsz : X.s.size = (sz : Int)) (htl : X.s.tail = (tl : Int)) (L : List Tok) (hL : huntF X.s X.b (X.b.length + 1) 0 (-1) = L) :
    Calls Try.prog 39 #[.pointer (some ⟨g, 0, none⟩)] w fun e w' => ∃ A c, e = .returned (.slice A (join L).length c) ∧ OT 35 w' (g + 1) (.slice A (join L).length c) (join L) ∧ Below g w w' := by
  refine (callsIn_wide (n := 5)).1 ?_
  have lg := h.lt
  replace h := Lib.hid h
  replace hwm := Lib.hid hwm
  replace hsr := Lib.hid hsr
  replace hrb := Lib.hid hrb
  replace hcb := Lib.hid hcb
  replace hmp := Lib.hid hmp
  replace hL := Lib.hid hL
  replace hsz := Lib.hid hsz
  replace htl := Lib.hid htl
  refine callsIn_of_wp_marks Try.func39 rfl trivial ?_ rfl
  simp only [Try.ntmps39, List.size_toArray, List.length_cons, List.length_nil, Nat.reduceAdd, Nat.reduceSub, Array.replicate_succ, Array.replicate_zero, List.push_toArray, List.append_toArray, List.nil_append, List.cons_append]
  refine wpIn_wide.2 ?_
  go_wp2
  refine wp_scope_straight ?_
  go_wp2
  refine wp_label ?_
  rename_i hk0
  refine hk0 _ _ ?_
  clear hk0
  go_wp2
  rename_i hk
  have b0 := (Blk.new w 77 #[.pointer (some ⟨g, 0, none⟩)]).alloc (.cells #[.int .i64 0] 3)
  have b1 := Blk.new (w.alloc (.cells #[.pointer (some ⟨g, 0, none⟩)] 77)) 3 #[.int .i64 0]
  rw [World.size_alloc] at b1
  have g0 := ((Gr.refl w).alloc (.cells #[.pointer (some ⟨g, 0, none⟩)] 77)).alloc (.cells #[.int .i64 0] 3)
  obtain ⟨Bh, hBh⟩ : ∃ Bh, Bh = w.heap.size := ⟨_, rfl⟩
  obtain ⟨B, hB⟩ : ∃ B, B = w.heap.size + 1 := ⟨_, rfl⟩
  rw [← hB] at b1 ⊢
  rw [← hBh] at b0 ⊢
  generalize ((w.alloc (.cells #[.pointer (some ⟨g, 0, none⟩)] 77)).alloc (.cells #[.int .i64 0] 3)) = w1 at b0 b1 g0 ⊢
  have hR0 : Run w g Bh B X 0 (-1) [] w1 := ⟨h.out.gr g0, b0, b1, KT2.of_gr g0, Below.mono g0 (Nat.le_of_lt lg)⟩
  clear b0 b1 g0
  obtain ⟨z1, z2, z3, z4⟩ := right_pos hrt
  have zb := (Sg.right_spec hrt).2.2.1
  rw [hsz.out] at z1 z2 z4
  rw [htl.out] at z3 z4
  have zsn : X.s.size.toNat = sz := by rw [hsz.out]; rfl
  have ztn : X.s.tail.toNat = tl := by rw [htl.out]; rfl
  have hwN : ∀ at_, winN X.s X.b at_ = X.b.length + 1 - (at_ + sz) := fun at_ => by unfold winN; rw [zsn]
  replace zsn := Lib.hid zsn
  replace ztn := Lib.hid ztn
  replace hwN := Lib.hid hwN
  replace hBh := Lib.hid hBh
  replace hB := Lib.hid hB
  have hLl : L.length ≤ 40000 := by
    rw [← hL.out]
    have := huntF_len (s := X.s) (b := X.b) (by rw [zsn.out]; omega) (X.b.length + 1) 0 (-1) (by omega)
    omega
  refine wp_mono (Q := fun e a W => e = Exit.exit 0 ∧ ∃ u10 u11 u12 u13 u14 u15 u16 u17 u18 u19 u20 u21 u22 u23 u24 u25 u26 u27 u28 : Value, ∃ (Ds : List Nat) (at_ : Nat), a = { tmps := #[.pointer (some ⟨g, 0, none⟩), .pointer (some ⟨Bh, 0, none⟩), .slice none 0 0, .pointer (some ⟨B, 0, none⟩), undef, undef, undef, undef, undef, undef, u10, u11, u12, u13, u14, u15, u16, u17, u18, u19, u20, u21, u22, u23, u24, u25, u26, u27, u28, undef, undef, undef, undef, undef, undef, undef, undef, undef, undef, undef, undef, undef, undef, undef, undef, undef, undef, undef, undef, undef, undef, undef, undef, undef, undef, undef, undef, undef, undef, undef, undef, undef, undef, undef, undef, undef, undef, undef, undef, undef, undef, undef, undef, undef, undef, undef, undef, undef, undef, undef, undef, undef, undef, undef, undef, undef, undef, undef, undef, undef, undef, undef, undef, undef, undef, undef, undef, undef, undef, undef, undef], defers := Ds.map mark } ∧ Hid (Foot w g Bh B X L W Ds at_)) (wp_loop (fun a W => ∃ u10 u11 u12 u13 u14 u15 u16 u17 u18 u19 u20 u21 u22 u23 u24 u25 u26 u27 u28 : Value, ∃ (Ds : List Nat) (at_ : Nat), a = { tmps := #[.pointer (some ⟨g, 0, none⟩), .pointer (some ⟨Bh, 0, none⟩), .slice none 0 0, .pointer (some ⟨B, 0, none⟩), undef, undef, undef, undef, undef, undef, u10, u11, u12, u13, u14, u15, u16, u17, u18, u19, u20, u21, u22, u23, u24, u25, u26, u27, u28, undef, undef, undef, undef, undef, undef, undef, undef, undef, undef, undef, undef, undef, undef, undef, undef, undef, undef, undef, undef, undef, undef, undef, undef, undef, undef, undef, undef, undef, undef, undef, undef, undef, undef, undef, undef, undef, undef, undef, undef, undef, undef, undef, undef, undef, undef, undef, undef, undef, undef, undef, undef, undef, undef, undef, undef, undef, undef, undef, undef, undef, undef, undef, undef, undef, undef, undef, undef, undef, undef, undef, undef], defers := Ds.map mark } ∧ Hid (Head w g Bh B X L W Ds at_)) (fun _ W => X.b.length - placeOf B W) ?start ?round) ?rest
  case start =>
    refine ⟨_, _, _, _, _, _, _, _, _, _, _, _, _, _, _, _, _, _, _, [], 0, rfl, Lib.hid ⟨X.b.length + 1, -1, [], by omega, by omega, by rw [List.nil_append]; exact hL.out, hR0, ⟨List.nodup_nil, by simp⟩⟩⟩
  case round =>
    clear hk hR0 h
    rintro a W ⟨u10, u11, u12, u13, u14, u15, u16, u17, u18, u19, u20, u21, u22, u23, u24, u25, u26, u27, u28, Ds, at_, rfl, hh⟩
    obtain ⟨n, last, out, ha, hn, hout, hrun, hmk⟩ := hh.out
    clear hh
    dsimp only
    have hnn : ∃ n', n = n' + 1 := ⟨n - 1, by omega⟩
    obtain ⟨n, rfl⟩ := hnn
    obtain ⟨ov, hb, ho⟩ := hrun.hn
    unfold hcells at hb
    rw [hsz.out] at hb
    have hbh := hrun.bh
    have hbx := hrun.bx
    have hWg : g < W.heap.size := hb.lt
    clear ho
    have hplace : placeOf B W = at_ := by unfold placeOf; rw [hbx.cell 0]; simp [intOf]
    rw [hplace]
    clear hplace
    have rbv := Lib.hid (hrb.out.below hrun.bl)
    replace hb := Lib.hid hb
    replace hbh := Lib.hid hbh
    replace hbx := Lib.hid hbx
    replace hrun := Lib.hid hrun
    replace hmk := Lib.hid hmk
    replace hout := Lib.hid hout
    by_cases hlt : at_ < X.b.length
    · go_wp2
      refine region_grow rfl (by kernel_rfl) ?_
      refine GW.p1 (.int .i64 (at_ : Int)) rfl trivial (kn0 (t := 3) (c := .pointer (some ⟨B, 0, none⟩)) (by kernel_rfl) rfl) (fun ρ w' hρ hg => by simp [execOp, hρ, go_sem, (hg.cell (p := ⟨B, 0, none⟩) hbx.out.lt).trans (hbx.out.cell 0)]) ?_
      refine GW.p1 (.pointer (some ⟨g, 0, none⟩)) rfl trivial (kn0 (t := 1) (c := .pointer (some ⟨Bh, 0, none⟩)) (by kernel_rfl) rfl) (fun ρ w' hρ hg => by simp [execOp, hρ, go_sem, (hg.cell (p := ⟨Bh, 0, none⟩) hbh.out.lt).trans (hbh.out.cell 0)]) ?_
      refine GW.p1 (.pointer (some ⟨g, 0, none⟩)) rfl trivial (kn (t := 11) (j := 1) (by kernel_rfl)) (fun ρ w' hρ hg => by simp [execOp, hρ, go_sem]) ?_
      refine GW.p1 (.pointer (some ⟨g, 7, none⟩)) rfl trivial (kn (t := 12) (j := 2) (by kernel_rfl)) (fun ρ w' hρ hg => by simp [execOp, hρ, go_sem]) ?_
      refine GW.p1 (.slice X.Ab X.b.length X.cb) rfl trivial (kn (t := 13) (j := 3) (by kernel_rfl)) (fun ρ w' hρ hg => by simp [execOp, hρ, go_sem, (hg.cell (p := ⟨g, 7, none⟩) hb.out.lt).trans (hb.out.cell 7)]) ?_
      refine GW.lenV rfl trivial rfl Try.underlying22 (kn (t := 14) (j := 4) (by kernel_rfl)) ?_
      refine GW.bin (.bool true) rfl trivial rfl (kn (t := 10) (j := 0) (by kernel_rfl)) (kn (t := 15) (j := 5) (by kernel_rfl)) (fun w' => by simp [go_sem, hlt] <;> omega) ?_
      refine GW.done (by simp) (by kernel_rfl) (fun w' hg => ?_)
      rintro v0 - v1 - v2 - v3 - v4 - v5 - v6 h6
      obtain rfl : v6 = (.bool true) := h6
      simp only [GFin, Act.put, List.setIfInBounds_toArray, List.set_cons_succ, List.set_cons_zero]
      replace hrun := Lib.hid (hrun.out.gr (Nat.le_of_lt lg) hg)
      replace hmk := Lib.hid (hmk.out.keep (KT2.others (KT2.of_gr (t := 91) (u := 35) hg)))
      replace rbv := Lib.hid (rbv.out.below (Below.mono hg (Nat.le_of_lt hWg)))
      replace hb := Lib.hid (blk_more hb.out hg)
      replace hbh := Lib.hid (blk_more hbh.out hg)
      replace hbx := Lib.hid (blk_more hbx.out hg)
      clear hWg hg
      obtain ⟨W1, rfl⟩ : ∃ W1, W1 = w' := ⟨_, rfl⟩
      have hWg : g < W1.heap.size := hb.out.lt
      go_wp2
      refine region_grow rfl (by kernel_rfl) ?_
      refine GW.p1 (.pointer (some ⟨g, 0, none⟩)) rfl trivial (kn0 (t := 1) (c := .pointer (some ⟨Bh, 0, none⟩)) (by kernel_rfl) rfl) (fun ρ w' hρ hg => by simp [execOp, hρ, go_sem, (hg.cell (p := ⟨Bh, 0, none⟩) hbh.out.lt).trans (hbh.out.cell 0)]) ?_
      refine GW.p1 (.pointer (some ⟨g, 0, none⟩)) rfl trivial (kn (t := 17) (j := 0) (by kernel_rfl)) (fun ρ w' hρ hg => by simp [execOp, hρ, go_sem]) ?_
      refine GW.p1 (.pointer (some ⟨g, 7, none⟩)) rfl trivial (kn (t := 18) (j := 1) (by kernel_rfl)) (fun ρ w' hρ hg => by simp [execOp, hρ, go_sem]) ?_
      refine GW.p1 (.slice X.Ab X.b.length X.cb) rfl trivial (kn (t := 19) (j := 2) (by kernel_rfl)) (fun ρ w' hρ hg => by simp [execOp, hρ, go_sem, (hg.cell (p := ⟨g, 7, none⟩) hb.out.lt).trans (hb.out.cell 7)]) ?_
      refine GW.p1 (.int .i64 (at_ : Int)) rfl trivial (kn0 (t := 3) (c := .pointer (some ⟨B, 0, none⟩)) (by kernel_rfl) rfl) (fun ρ w' hρ hg => by simp [execOp, hρ, go_sem, (hg.cell (p := ⟨B, 0, none⟩) hbx.out.lt).trans (hbx.out.cell 0)]) ?_
      refine GW.op (isBg g (X.b.drop at_)) rfl (isBg_lasts _ _) trivial (fun a w' hg hkn => ?_) ?_
      · have h1 : a.eval (.tmp 20) = .slice X.Ab X.b.length X.cb := (kn (t := 20) (j := 3) (by kernel_rfl)) a w' hg hkn
        have h2 : a.eval (.tmp 21) = .int .i64 (at_ : Int) := (kn (t := 21) (j := 4) (by kernel_rfl)) a w' hg hkn
        exact res_slice1g (.tmp 20) (.tmp 21) Try.underlying22 byteSz rfl h1 h2 (by omega) hcb.out.1 hcb.out.2 (Nat.le_trans (Nat.le_of_lt hb.out.lt) hg.size) (rbv.out.below (Below.mono hg (Nat.le_of_lt hb.out.lt)))
      refine GW.p1 (.pointer (some ⟨g, 0, none⟩)) rfl trivial (kn0 (t := 1) (c := .pointer (some ⟨Bh, 0, none⟩)) (by kernel_rfl) rfl) (fun ρ w' hρ hg => by simp [execOp, hρ, go_sem, (hg.cell (p := ⟨Bh, 0, none⟩) hbh.out.lt).trans (hbh.out.cell 0)]) ?_
      refine GW.p1 (.pointer (some ⟨g, 0, none⟩)) rfl trivial (kn (t := 23) (j := 6) (by kernel_rfl)) (fun ρ w' hρ hg => by simp [execOp, hρ, go_sem]) ?_
      refine GW.p1 (.pointer (some ⟨g, 0, none⟩)) rfl trivial (kn (t := 24) (j := 7) (by kernel_rfl)) (fun ρ w' hρ hg => by simp [execOp, hρ, go_sem]) ?_
      refine GW.p1 (.pointer (some ⟨g, 0, none⟩)) rfl trivial (kn (t := 25) (j := 8) (by kernel_rfl)) (fun ρ w' hρ hg => by simp [execOp, hρ, go_sem]) ?_
      refine GW.p1 (.int .i64 (sz : Int)) rfl trivial (kn (t := 26) (j := 9) (by kernel_rfl)) (fun ρ w' hρ hg => by simp [execOp, hρ, go_sem, (hg.cell (p := ⟨g, 0, none⟩) hb.out.lt).trans (hb.out.cell 0)]) ?_
      refine GW.call2 (isWin g sz (X.b.drop at_)) rfl trivial rfl Try.func45 (by kernel_rfl) (by kernel_rfl) (isWin_lasts _ _ _) (kn (t := 22) (j := 5) (by kernel_rfl)) (kn (t := 27) (j := 10) (by kernel_rfl)) (fun v u w' hg hv hu => ?_) ?_
      · obtain ⟨A8, c8, rfl, hc8, hm8, gz8, r8⟩ := hv
        obtain rfl : u = _ := hu
        refine (Roll.windows_any A8 (X.b.drop at_).length c8 (sz : Int) w').mono ?_
        rintro e w9 ⟨rfl, rfl⟩
        have b9 := Blk.new (w'.alloc (.cells #[.slice A8 (X.b.drop at_).length c8] 22)) 3 #[.int .i64 (sz : Int)]
        rw [World.size_alloc] at b9
        have c9 := (Blk.new w' 22 #[.slice A8 (X.b.drop at_).length c8]).alloc (.cells #[.int .i64 (sz : Int)] 3)
        have g9 := ((Gr.refl w').alloc (.cells #[.slice A8 (X.b.drop at_).length c8] 22)).alloc (.cells #[.int .i64 (sz : Int)] 3)
        exact ⟨_, rfl, ⟨w'.heap.size + 1, w'.heap.size, A8, c8, rfl, b9, c9, hc8, hm8, Nat.le_trans gz8 g9.size, r8.below (Below.mono g9 gz8)⟩, g9⟩
      refine GW.done (by simp) (by kernel_rfl) (fun w' hg => ?_)
      rintro v0 - v1 - v2 - v3 - v4 - v5 - v6 - v7 - v8 - v9 - v10 - v11 h11
      simp only [GFin, Act.put, List.setIfInBounds_toArray, List.set_cons_succ, List.set_cons_zero]
      obtain ⟨Bn, Bb, A8, c8, rfl, wn, wb, hc8, hm8, gV0, rb8⟩ := h11
      replace hrun := Lib.hid (hrun.out.gr (Nat.le_of_lt lg) hg)
      replace hmk := Lib.hid (hmk.out.keep (KT2.others (KT2.of_gr (t := 91) (u := 35) hg)))
      replace rbv := Lib.hid (rbv.out.below (Below.mono hg (Nat.le_of_lt hWg)))
      have hWw : w.heap.size ≤ w'.heap.size := hrun.out.ks.size
      have hgV : g < w'.heap.size := hrun.out.hn.lt
      have hng : Bn ≠ g := fun e => by
        have := (show w'.heap[g]? = _ from e ▸ wn).symm.trans (show w'.heap[g]? = _ from (blk_more hb.out hg))
        injection this with this
        injection this with _ this _
        exact absurd this (by decide)
      have hbg : Bb ≠ g := fun e => by
        have := (show w'.heap[g]? = _ from e ▸ wb).symm.trans (show w'.heap[g]? = _ from (blk_more hb.out hg))
        injection this with this
        injection this with _ this _
        exact absurd this (by decide)
      clear hb hbh hbx hg hWg
      obtain ⟨V, rfl⟩ : ∃ V, V = w' := ⟨_, rfl⟩
      go_wp2
      have hDl : ∀ D ∈ Ds, D < V.heap.size := hmk.out.lt
      have hdl : (X.b.drop at_).length = X.b.length - at_ := by rw [List.length_drop]
      refine (wpIn_wide (n := 5)).1 ?_
      refine wpIn_rangeFunc_ownG rfl (by omega) (gf := 55) (lb := #[.pointer (some ⟨Bn, 0, none⟩), .pointer (some ⟨Bb, 0, none⟩)]) rfl trivial (enters_of Try.func55 (by kernel_rfl) rfl)
        (Roll.windows_stopsK 4 (by omega) Bn Bb g A8 c8 sz (X.b.drop at_) (by omega) hc8 hm8 (by omega) V (Ke g V.heap.size) (Ke.refl _ _) Ke.trans V.heap.size (fun h hn => Ke.of_gr h hn) Ke.size (fun h => h.cell (p := ⟨Bn, 0, none⟩) wn.lt hng) (fun h => h.cell (p := ⟨Bb, 0, none⟩) wb.lt hbg)
          (fun h hr => hr.below (h.below (Nat.le_of_lt hgV) (Nat.le_refl _))) wn.lt wb.lt (Nat.le_of_lt hgV) (Nat.le_refl _) (wn.cell 0) (wb.cell 0) rb8)
        Ke.trans (fun W l o o' hl _ _ _ => Ke.putObj W l o' hl) (Below.refl _ _) (fun _ => rfl)
        (fun pre U => noHit X.s X.b at_ last (pre.map (·.1)) ∧ Run w g Bh B X at_ (lastP last (pre.map (·.1))) out U ∧ Marks w.heap.size Ds U ∧ V.heap.size ≤ U.heap.size)
        (fun c pre U => c = .exit 1 ∧ ∃ (ini : List Nat) (y k : Nat), pre.map (·.1) = ini ++ [y] ∧ noHit X.s X.b at_ last ini ∧ whichP X.s.bs (winAt X.s X.b at_ y) (lastP last (ini ++ [y])) = some k ∧ y + sz ≤ (X.b.drop at_).length ∧
          Run w g Bh B X (at_ + y + sz) ((k : Int) + 1) (out ++ lit X.b at_ (at_ + y) ++ [⟨(k : Int), 1, []⟩]) U ∧ Marks w.heap.size Ds U)
        (fun s X1 Y row hs hg hr => ⟨hs.1, hs.2.1.own (Nat.le_of_lt lg) hg hWw hr, hs.2.2.1.own hDl hg (fun r e => (hr r e).1), Nat.le_trans hs.2.2.2 hg.size⟩)
        (fun c s X1 Y row hs hg hr => by
          obtain ⟨hc, ini, y, k, e1, e2, e3, e4, e5, e6⟩ := hs
          exact ⟨hc, ini, y, k, e1, e2, e3, e4, e5.own (Nat.le_of_lt lg) hg hWw hr, e6.own hDl hg (fun r e => (hr r e).1)⟩)
        ⟨noHit_nil _ _ _ _, hrun.out, hmk.out, Nat.le_refl _⟩ ?a1 ?assign ?body ?done ?stop
      case assign =>
        intro lp x U K hK
        dsimp only [Roll.encW, Roll.enc]
        gi_wp2
        exact hK
      case body =>
        rintro lp pre ⟨j, hj⟩ U ⟨hnh, hr, hm, hUV⟩ hlt2
        obtain ⟨pr, hpr⟩ : ∃ pr, pre.map (·.1) = pr := ⟨_, rfl⟩
        rw [hpr] at hnh hr
        have hpr1 := Lib.hid (show (pre ++ [(⟨j, hj⟩ : Roll.Win (X.b.drop at_) sz)]).map (·.1) = pr ++ [j] by rw [List.map_append, hpr]; rfl)
        dsimp only
        obtain ⟨lj, hljH⟩ : ∃ l, lastP last (pr ++ [j]) = l := ⟨_, rfl⟩
        have hlj := hljH
        rw [lastP_snoc] at hlj
        replace hljH := Lib.hid hljH
        replace hnh := Lib.hid hnh
        clear hpr hrun hmk rb8 wn wb hng hbg rbv
        have hjl : at_ + j + sz ≤ X.b.length := by omega
        have hol : out.length ≤ 40000 := by
          have := congrArg List.length hout.out
          rw [List.length_append] at this
          omega
        have hol2 : (out ++ lit X.b at_ (at_ + j)).length ≤ 1000000 := by
          have := lit_len X.b at_ (at_ + j)
          rw [List.length_append]
          omega
        have hgB : g ≤ B := by have := hB.out; omega
        have hwB : w.heap.size ≤ B := by have := hB.out; omega
        have hBhB : Bh ≠ B := by have := hB.out; have := hBh.out; omega
        have hw := Lib.hid (show winAt X.s X.b at_ j = sign ((X.b.drop (at_ + j)).take sz) by unfold winAt; rw [zsn.out])
        have hwh := Lib.hid (show ∀ U', Run w g Bh B X at_ lj out U' → Calls Try.prog 46 #[.pointer (some ⟨g, 0, none⟩), .int .i64 ((at_ : Int) + (j : Int)), .int .u32 (n32 (Roll.of (List.take sz (List.drop (at_ + j) X.b))))] U' fun e w' => e = .returned (whichV (whichP X.s.bs (sign ((X.b.drop (at_ + j)).take sz)) lj)) ∧ Gr U' w' from fun U' hU => by
          have := which_any g X lj out (at_ + j) sz mb U' hU.hn hmp.out (hwm.out.kt hU.ks) (hsr.out.below hU.bl) (hrb.out.below hU.bl) hcb.out hbl (by omega) hsz.out hjl _ rfl
          rw [Int.natCast_add] at this
          exact this)
        have hpl := Lib.hid (show ∀ U', Run w g Bh B X at_ lj out U' → Calls Try.prog 47 #[.pointer (some ⟨g, 0, none⟩), .int .i64 (at_ : Int), .int .i64 ((at_ : Int) + (j : Int))] U' fun e w' => e = .returned (.tuple #[]) ∧ Hn w' g X lj (out ++ lit X.b at_ (at_ + j)) ∧ KS U' w' ∧ Below g U' w' from fun U' hU => by
          have := plain_any g X lj out at_ (at_ + j) U' hU.hn (hrb.out.below hU.bl) hcb.out hbl (by omega) (by omega)
          rw [Int.natCast_add] at this
          exact this)
        have kw : IntKind.i64.wrap ((at_ : Int) + (j : Int)) = (at_ : Int) + (j : Int) := IntWalk.i64_in _ (by omega)
        obtain ⟨ov, hb, ho⟩ := hr.hn
        unfold hcells at hb
        have d8 := hb.cell 8
        have f8 := hb.frozen 8
        clear ho hb hc8 hm8
        by_cases h0 : 0 < j
        ·
          have hr1 : Run w g Bh B X at_ lj out (U.setCell ⟨g, 8, none⟩ (.int .i64 (-1))) := by
            obtain ⟨q1, q2, q3⟩ := hr.hn.last (-1)
            rw [← hlj, if_pos h0]
            exact hr.on q1 q2 q3
          have kf1 : KeepsFrom V.heap.size U (U.setCell ⟨g, 8, none⟩ (.int .i64 (-1))) := (KeepsOthers.setCell _ _ _).from _
          have ke1 : Ke g V.heap.size U (U.setCell ⟨g, 8, none⟩ (.int .i64 (-1))) := Ke.setCell _ _ _
          have km1 : Marks w.heap.size Ds (U.setCell ⟨g, 8, none⟩ (.int .i64 (-1))) := hm.keep (KeepsOthers.setCell _ _ _)
          have d0 := hr.bh.cell 0
          have dx1 := hr1.bx.cell 0
          have dh1 := hr1.bh.cell 0
          have dt : (0 : Int) < (j : Int) := by omega
          have hz1 : U.heap.size ≤ (U.setCell ⟨g, 8, none⟩ (.int .i64 (-1))).heap.size := by rw [World.size_setCell]; exact Nat.le_refl _
          clear hr hm hlj
          replace hr1 := Lib.hid hr1
          replace kf1 := Lib.hid kf1
          replace ke1 := Lib.hid ke1
          replace km1 := Lib.hid km1
          gi_wp2_with fail
          refine ⟨trivial, ?_⟩
          gi_at_call 46
          refine (CallsIn.inRound lp (callsIn_wide.2 (hwh.out _ hr1.out))).mono ?_
          rintro e U2 ⟨rfl, g2⟩
          replace hr1 := Lib.hid (hr1.out.gr (Nat.le_of_lt lg) g2)
          replace km1 := Lib.hid (km1.out.keep (KT2.others (KT2.of_gr (t := 91) (u := 35) g2)))
          replace kf1 := Lib.hid (kf1.out.trans (gr_from g2 _))
          replace ke1 := Lib.hid (ke1.out.trans (Ke.of_gr g2 (Nat.le_trans hUV hz1)))
          clear d8 f8 d0 dx1 dh1 g2 hz1
          cases hq : whichP X.s.bs (sign ((X.b.drop (at_ + j)).take sz)) lj with
          | none =>
            have hq' := Lib.hid hq
            clear hq
            dsimp only [whichV]
            gi_wp2
            refine ⟨kf1.out, ke1.out, ?_⟩
            dsimp only
            rw [hpr1.out, hljH.out]
            exact ⟨noHit_snoc hnh.out (by rw [hljH.out, hw.out]; exact hq'.out), hr1.out, km1.out, Nat.le_trans hUV kf1.out.size⟩
          | some k =>
            have hq' := Lib.hid hq
            have hkb : k ≤ 4096 := Nat.le_of_lt (Nat.lt_of_lt_of_le (which_ltS hq) zb)
            clear hq
            have dx2 := hr1.out.bx.cell 0
            have dh2 := hr1.out.bh.cell 0
            dsimp only [whichV]
            gi_wp2_with fail
            refine ⟨trivial, ?_⟩
            gi_at_call 47
            refine (CallsIn.inRound lp (callsIn_wide.2 (hpl.out _ hr1.out))).mono ?_
            rintro e U3 ⟨rfl, n3, k3, b3⟩
            have hr3 := hr1.out.on n3 k3 b3
            have dh3 := hr3.bh.cell 0
            replace hr3 := Lib.hid hr3
            have km3 := Lib.hid (km1.out.keep k3.others)
            have kf3 := Lib.hid (kf1.out.trans (k3.others.from _))
            clear dx2 dh2 n3 k3 b3 hr1 km1 kf1 ke1
            gi_wp2_with fail
            refine ⟨trivial, ?_⟩
            gi_at_call 48
            refine (CallsIn.inRound lp (callsIn_wide.2 (copied_any g X lj (out ++ lit X.b at_ (at_ + j)) k U3 hr3.out.hn (by omega) hol2))).mono ?_
            rintro e U4 ⟨rfl, n4, k4, b4⟩
            have hr4 := hr3.out.on n4 k4 b4
            obtain ⟨ov4, hb4, _⟩ := hr4.hn
            unfold hcells at hb4
            rw [hsz.out] at hb4
            have hbh4 := Lib.hid hr4.bh
            have hbx4 := Lib.hid hr4.bx
            replace hb4 := Lib.hid hb4
            replace hr4 := Lib.hid hr4
            have km4 := Lib.hid (km3.out.keep k4.others)
            have kf4 := Lib.hid (kf3.out.trans (k4.others.from _))
            clear dh3 n4 k4 b4 hr3 km3 kf3
            gi_wp2
            refine region_growIn (by kernel_rfl) (by kernel_rfl) (by kernel_rfl) (fun ⟨_, _, h⟩ => h) ?_
            refine GW.p1 (.int .i64 (at_ : Int)) rfl trivial (kn0 (t := 3) (c := .pointer (some ⟨B, 0, none⟩)) (by kernel_rfl) rfl) (fun ρ w' hρ hg => by simp [execOp, hρ, go_sem, (hg.cell (p := ⟨B, 0, none⟩) hbx4.out.lt).trans (hbx4.out.cell 0)]) ?_
            refine GW.mv rfl trivial (.inl rfl) (kn0 (t := 4) (c := .int .i64 (j : Int)) (by kernel_rfl) rfl) (eqv_lasts _) ?_
            refine GW.p1 (.pointer (some ⟨g, 0, none⟩)) rfl trivial (kn0 (t := 1) (c := .pointer (some ⟨Bh, 0, none⟩)) (by kernel_rfl) rfl) (fun ρ w' hρ hg => by simp [execOp, hρ, go_sem, (hg.cell (p := ⟨Bh, 0, none⟩) hbh4.out.lt).trans (hbh4.out.cell 0)]) ?_
            refine GW.p1 (.pointer (some ⟨g, 0, none⟩)) rfl trivial (kn (t := 57) (j := 2) (by kernel_rfl)) (fun ρ w' hρ hg => by simp [execOp, hρ, go_sem]) ?_
            refine GW.p1 (.pointer (some ⟨g, 0, none⟩)) rfl trivial (kn (t := 58) (j := 3) (by kernel_rfl)) (fun ρ w' hρ hg => by simp [execOp, hρ, go_sem]) ?_
            refine GW.p1 (.pointer (some ⟨g, 0, none⟩)) rfl trivial (kn (t := 59) (j := 4) (by kernel_rfl)) (fun ρ w' hρ hg => by simp [execOp, hρ, go_sem]) ?_
            refine GW.p1 (.int .i64 (sz : Int)) rfl trivial (kn (t := 60) (j := 5) (by kernel_rfl)) (fun ρ w' hρ hg => by simp [execOp, hρ, go_sem, (hg.cell (p := ⟨g, 0, none⟩) hb4.out.lt).trans (hb4.out.cell 0)]) ?_
            refine GW.bin (.int .i64 ((j : Int) + (sz : Int))) rfl trivial rfl (kn (t := 56) (j := 1) (by kernel_rfl)) (kn (t := 61) (j := 6) (by kernel_rfl)) (fun w' => by simp [go_sem, IntKind.wrap_i64]; omega) ?_
            refine GW.bin (.int .i64 ((at_ + j + sz : Nat) : Int)) rfl trivial rfl (kn (t := 55) (j := 0) (by kernel_rfl)) (kn (t := 62) (j := 7) (by kernel_rfl)) (fun w' => by simp [go_sem, IntKind.wrap_i64]; omega) ?_
            refine GW.tail (m := 9) (by simp) (by kernel_rfl) (by kernel_rfl) (fun w' hg => ?_)
            rintro v0 - v1 - v2 - v3 - v4 - v5 - v6 - v7 - v8 h8
            obtain rfl : v8 = (.int .i64 ((at_ + j + sz : Nat) : Int)) := h8
            simp only [GFin, List.take_succ_cons, List.take_zero, List.drop_succ_cons, List.drop_zero, Act.put, List.setIfInBounds_toArray, List.set_cons_succ, List.set_cons_zero]
            have hr5 := hr4.out.gr (Nat.le_of_lt lg) hg
            have hr6 := hr5.goes hgB hwB hBhB (at_ + j + sz)
            have fz := hr5.bx.frozen 0
            have cz := hr5.bx.cell 0
            have km6 := Lib.hid ((km4.out.keep (KT2.others (KT2.of_gr (t := 91) (u := 35) hg))).keep (KeepsOthers.setCell w' ⟨B, 0, none⟩ (.int .i64 ((at_ + j + sz : Nat) : Int))))
            have kf6 := Lib.hid ((kf4.out.trans (gr_from hg _)).trans ((KeepsOthers.setCell w' ⟨B, 0, none⟩ (.int .i64 ((at_ + j + sz : Nat) : Int))).from _))
            replace hr6 := Lib.hid hr6
            clear hg hr4 hb4 hbh4 hbx4 km4 kf4 hr5
            go_wp2
            gi_wp2
            refine ⟨kf6.out, rfl, pr, j, k, hpr1.out, hnh.out, by rw [hljH.out, hw.out]; exact hq'.out, hj, hr6.out, km6.out⟩
        ·
          have hr1 : Run w g Bh B X at_ lj out U := by
            rw [← hlj, if_neg h0]
            exact hr
          have kf1 : KeepsFrom V.heap.size U U := KeepsFrom.refl _ _
          have ke1 : Ke g V.heap.size U U := Ke.refl _ _ _
          have km1 : Marks w.heap.size Ds U := hm
          have dx1 := hr1.bx.cell 0
          have dh1 := hr1.bh.cell 0
          have dt : ¬ (0 : Int) < (j : Int) := by omega
          clear d8 f8
          have hz1 : U.heap.size ≤ (U).heap.size := Nat.le_refl _
          clear hr hm hlj
          replace hr1 := Lib.hid hr1
          replace kf1 := Lib.hid kf1
          replace ke1 := Lib.hid ke1
          replace km1 := Lib.hid km1
          gi_wp2_with fail
          refine ⟨trivial, ?_⟩
          gi_at_call 46
          refine (CallsIn.inRound lp (callsIn_wide.2 (hwh.out _ hr1.out))).mono ?_
          rintro e U2 ⟨rfl, g2⟩
          replace hr1 := Lib.hid (hr1.out.gr (Nat.le_of_lt lg) g2)
          replace km1 := Lib.hid (km1.out.keep (KT2.others (KT2.of_gr (t := 91) (u := 35) g2)))
          replace kf1 := Lib.hid (kf1.out.trans (gr_from g2 _))
          replace ke1 := Lib.hid (ke1.out.trans (Ke.of_gr g2 (Nat.le_trans hUV hz1)))
          clear dx1 dh1 g2 hz1
          cases hq : whichP X.s.bs (sign ((X.b.drop (at_ + j)).take sz)) lj with
          | none =>
            have hq' := Lib.hid hq
            clear hq
            dsimp only [whichV]
            gi_wp2
            refine ⟨kf1.out, ke1.out, ?_⟩
            dsimp only
            rw [hpr1.out, hljH.out]
            exact ⟨noHit_snoc hnh.out (by rw [hljH.out, hw.out]; exact hq'.out), hr1.out, km1.out, Nat.le_trans hUV kf1.out.size⟩
          | some k =>
            have hq' := Lib.hid hq
            have hkb : k ≤ 4096 := Nat.le_of_lt (Nat.lt_of_lt_of_le (which_ltS hq) zb)
            clear hq
            have dx2 := hr1.out.bx.cell 0
            have dh2 := hr1.out.bh.cell 0
            dsimp only [whichV]
            gi_wp2_with fail
            refine ⟨trivial, ?_⟩
            gi_at_call 47
            refine (CallsIn.inRound lp (callsIn_wide.2 (hpl.out _ hr1.out))).mono ?_
            rintro e U3 ⟨rfl, n3, k3, b3⟩
            have hr3 := hr1.out.on n3 k3 b3
            have dh3 := hr3.bh.cell 0
            replace hr3 := Lib.hid hr3
            have km3 := Lib.hid (km1.out.keep k3.others)
            have kf3 := Lib.hid (kf1.out.trans (k3.others.from _))
            clear dx2 dh2 n3 k3 b3 hr1 km1 kf1 ke1
            gi_wp2_with fail
            refine ⟨trivial, ?_⟩
            gi_at_call 48
            refine (CallsIn.inRound lp (callsIn_wide.2 (copied_any g X lj (out ++ lit X.b at_ (at_ + j)) k U3 hr3.out.hn (by omega) hol2))).mono ?_
            rintro e U4 ⟨rfl, n4, k4, b4⟩
            have hr4 := hr3.out.on n4 k4 b4
            obtain ⟨ov4, hb4, _⟩ := hr4.hn
            unfold hcells at hb4
            rw [hsz.out] at hb4
            have hbh4 := Lib.hid hr4.bh
            have hbx4 := Lib.hid hr4.bx
            replace hb4 := Lib.hid hb4
            replace hr4 := Lib.hid hr4
            have km4 := Lib.hid (km3.out.keep k4.others)
            have kf4 := Lib.hid (kf3.out.trans (k4.others.from _))
            clear dh3 n4 k4 b4 hr3 km3 kf3
            gi_wp2
            refine region_growIn (by kernel_rfl) (by kernel_rfl) (by kernel_rfl) (fun ⟨_, _, h⟩ => h) ?_
            refine GW.p1 (.int .i64 (at_ : Int)) rfl trivial (kn0 (t := 3) (c := .pointer (some ⟨B, 0, none⟩)) (by kernel_rfl) rfl) (fun ρ w' hρ hg => by simp [execOp, hρ, go_sem, (hg.cell (p := ⟨B, 0, none⟩) hbx4.out.lt).trans (hbx4.out.cell 0)]) ?_
            refine GW.mv rfl trivial (.inl rfl) (kn0 (t := 4) (c := .int .i64 (j : Int)) (by kernel_rfl) rfl) (eqv_lasts _) ?_
            refine GW.p1 (.pointer (some ⟨g, 0, none⟩)) rfl trivial (kn0 (t := 1) (c := .pointer (some ⟨Bh, 0, none⟩)) (by kernel_rfl) rfl) (fun ρ w' hρ hg => by simp [execOp, hρ, go_sem, (hg.cell (p := ⟨Bh, 0, none⟩) hbh4.out.lt).trans (hbh4.out.cell 0)]) ?_
            refine GW.p1 (.pointer (some ⟨g, 0, none⟩)) rfl trivial (kn (t := 57) (j := 2) (by kernel_rfl)) (fun ρ w' hρ hg => by simp [execOp, hρ, go_sem]) ?_
            refine GW.p1 (.pointer (some ⟨g, 0, none⟩)) rfl trivial (kn (t := 58) (j := 3) (by kernel_rfl)) (fun ρ w' hρ hg => by simp [execOp, hρ, go_sem]) ?_
            refine GW.p1 (.pointer (some ⟨g, 0, none⟩)) rfl trivial (kn (t := 59) (j := 4) (by kernel_rfl)) (fun ρ w' hρ hg => by simp [execOp, hρ, go_sem]) ?_
            refine GW.p1 (.int .i64 (sz : Int)) rfl trivial (kn (t := 60) (j := 5) (by kernel_rfl)) (fun ρ w' hρ hg => by simp [execOp, hρ, go_sem, (hg.cell (p := ⟨g, 0, none⟩) hb4.out.lt).trans (hb4.out.cell 0)]) ?_
            refine GW.bin (.int .i64 ((j : Int) + (sz : Int))) rfl trivial rfl (kn (t := 56) (j := 1) (by kernel_rfl)) (kn (t := 61) (j := 6) (by kernel_rfl)) (fun w' => by simp [go_sem, IntKind.wrap_i64]; omega) ?_
            refine GW.bin (.int .i64 ((at_ + j + sz : Nat) : Int)) rfl trivial rfl (kn (t := 55) (j := 0) (by kernel_rfl)) (kn (t := 62) (j := 7) (by kernel_rfl)) (fun w' => by simp [go_sem, IntKind.wrap_i64]; omega) ?_
            refine GW.tail (m := 9) (by simp) (by kernel_rfl) (by kernel_rfl) (fun w' hg => ?_)
            rintro v0 - v1 - v2 - v3 - v4 - v5 - v6 - v7 - v8 h8
            obtain rfl : v8 = (.int .i64 ((at_ + j + sz : Nat) : Int)) := h8
            simp only [GFin, List.take_succ_cons, List.take_zero, List.drop_succ_cons, List.drop_zero, Act.put, List.setIfInBounds_toArray, List.set_cons_succ, List.set_cons_zero]
            have hr5 := hr4.out.gr (Nat.le_of_lt lg) hg
            have hr6 := hr5.goes hgB hwB hBhB (at_ + j + sz)
            have fz := hr5.bx.frozen 0
            have cz := hr5.bx.cell 0
            have km6 := Lib.hid ((km4.out.keep (KT2.others (KT2.of_gr (t := 91) (u := 35) hg))).keep (KeepsOthers.setCell w' ⟨B, 0, none⟩ (.int .i64 ((at_ + j + sz : Nat) : Int))))
            have kf6 := Lib.hid ((kf4.out.trans (gr_from hg _)).trans ((KeepsOthers.setCell w' ⟨B, 0, none⟩ (.int .i64 ((at_ + j + sz : Nat) : Int))).from _))
            replace hr6 := Lib.hid hr6
            clear hg hr4 hb4 hbh4 hbx4 km4 kf4 hr5
            go_wp2
            gi_wp2
            refine ⟨kf6.out, rfl, pr, j, k, hpr1.out, hnh.out, by rw [hljH.out, hw.out]; exact hq'.out, hj, hr6.out, km6.out⟩
      case done =>
        rintro D ys U hD hys ⟨hnh, hr, hm, hz9⟩ hK
        rename_i hk
        refine hk _ _ ?_
        clear hk
        have hno : hit X.s X.b at_ last = none := by
          refine hit_no ?_
          rw [hwN.out, show X.b.length + 1 - (at_ + sz) = (X.b.drop at_).length + 1 - sz by omega, ← hys]
          exact hnh
        have ho := hout.out
        rw [huntF_none hno] at ho
        have hf := Lib.hid (show Foot w g Bh B X L U (D :: Ds) at_ from ⟨_, out, ha, ho, hr, hm.cons (fun D' h => Nat.lt_of_lt_of_le (hDl D' h) hD) (by omega) hK⟩)
        clear hno ho hr hm hK hnh hys hout hrun hmk rbv rb8 wn wb hng hbg hDl
        go_wp2
        exact ⟨trivial, _, _, _, _, _, _, _, _, _, _, _, _, _, _, _, _, _, _, _, D :: Ds, at_, rfl, hf⟩
      case stop =>
        rintro D c pre U hD ⟨j, hj, hpre⟩ ⟨rfl, ini, y, k, e1, e2, e3, e4, hr, hm⟩ hK
        obtain rfl := range_snoc_eq (e1.symm.trans hpre)
        have hh := hit_yes e2 (by rw [hwN.out]; omega) e3
        have ho := hout.out
        rw [huntF_some hh, zsn.out] at ho
        have hf := Lib.hid (show Head w g Bh B X L U (D :: Ds) (at_ + y + sz) from ⟨n, (k : Int) + 1, _, by omega, by omega, by rw [← ho]; simp only [List.append_assoc, List.cons_append, List.nil_append], hr, hm.cons (fun D' h => Nat.lt_of_lt_of_le (hDl D' h) hD) (by omega) hK⟩)
        have hpl : placeOf B U = at_ + y + sz := by unfold placeOf; rw [hr.bx.cell 0]; simp only [List.getElem?_toArray, List.getElem?_cons_zero, intOf]; omega
        clear hh ho hr hm hK e1 e2 e3 hpre hout hrun hmk rbv rb8 wn wb hng hbg hDl
        gi_wp2
        refine ⟨⟨_, _, _, _, _, _, _, _, _, _, _, _, _, _, _, _, _, _, _, D :: Ds, at_ + y + sz, rfl, hf⟩, ?_⟩
        rw [hpl]
        omega
    · go_wp2
      refine region_grow rfl (by kernel_rfl) ?_
      refine GW.p1 (.int .i64 (at_ : Int)) rfl trivial (kn0 (t := 3) (c := .pointer (some ⟨B, 0, none⟩)) (by kernel_rfl) rfl) (fun ρ w' hρ hg => by simp [execOp, hρ, go_sem, (hg.cell (p := ⟨B, 0, none⟩) hbx.out.lt).trans (hbx.out.cell 0)]) ?_
      refine GW.p1 (.pointer (some ⟨g, 0, none⟩)) rfl trivial (kn0 (t := 1) (c := .pointer (some ⟨Bh, 0, none⟩)) (by kernel_rfl) rfl) (fun ρ w' hρ hg => by simp [execOp, hρ, go_sem, (hg.cell (p := ⟨Bh, 0, none⟩) hbh.out.lt).trans (hbh.out.cell 0)]) ?_
      refine GW.p1 (.pointer (some ⟨g, 0, none⟩)) rfl trivial (kn (t := 11) (j := 1) (by kernel_rfl)) (fun ρ w' hρ hg => by simp [execOp, hρ, go_sem]) ?_
      refine GW.p1 (.pointer (some ⟨g, 7, none⟩)) rfl trivial (kn (t := 12) (j := 2) (by kernel_rfl)) (fun ρ w' hρ hg => by simp [execOp, hρ, go_sem]) ?_
      refine GW.p1 (.slice X.Ab X.b.length X.cb) rfl trivial (kn (t := 13) (j := 3) (by kernel_rfl)) (fun ρ w' hρ hg => by simp [execOp, hρ, go_sem, (hg.cell (p := ⟨g, 7, none⟩) hb.out.lt).trans (hb.out.cell 7)]) ?_
      refine GW.lenV rfl trivial rfl Try.underlying22 (kn (t := 14) (j := 4) (by kernel_rfl)) ?_
      refine GW.bin (.bool false) rfl trivial rfl (kn (t := 10) (j := 0) (by kernel_rfl)) (kn (t := 15) (j := 5) (by kernel_rfl)) (fun w' => by simp [go_sem, hlt] <;> omega) ?_
      refine GW.done (by simp) (by kernel_rfl) (fun w' hg => ?_)
      rintro v0 - v1 - v2 - v3 - v4 - v5 - v6 h6
      obtain rfl : v6 = (.bool false) := h6
      simp only [GFin, Act.put, List.setIfInBounds_toArray, List.set_cons_succ, List.set_cons_zero]
      have hrun1 := hrun.out.gr (Nat.le_of_lt lg) hg
      have hmk1 := hmk.out.keep (KT2.others (KT2.of_gr (t := 91) (u := 35) hg))
      have hno : hit X.s X.b at_ last = none := by
        refine hit_no ?_
        rw [hwN.out, show X.b.length + 1 - (at_ + sz) = 0 by omega]
        exact noHit_nil _ _ _ _
      have ho := hout.out
      rw [huntF_none hno] at ho
      have hf : Foot w g Bh B X L w' Ds at_ := ⟨last, out, ha, ho, hrun1, hmk1⟩
      replace hf := Lib.hid hf
      clear hrun hmk rbv hb hbh hbx hWg hg hout hno ho hrun1 hmk1
      go_wp2
      exact ⟨trivial, _, _, _, _, _, _, _, _, _, _, _, _, _, _, _, _, _, _, _, Ds, at_, rfl, hf⟩
  case rest =>
    rintro e a W ⟨rfl, u10, u11, u12, u13, u14, u15, u16, u17, u18, u19, u20, u21, u22, u23, u24, u25, u26, u27, u28, Ds, at_, rfl, hh⟩
    refine hk _ _ ?_
    clear hk hR0 h
    obtain ⟨last, out, ha, hout, hrun, hmk⟩ := hh.out
    clear hh
    dsimp only
    have hta := Lib.hid (tail_any g X last out at_ W hrun.hn (hrb.out.below hrun.bl) hcb.out hbl ha tl htl.out (by omega))
    have dh := hrun.bh.cell 0
    have dx := hrun.bx.cell 0
    have hol : out.length ≤ 40000 := by
      have := congrArg List.length hout
      rw [List.length_append] at this
      omega
    have hgB : g ≤ B := by have := hB.out; omega
    have hwB : w.heap.size ≤ B := by have := hB.out; omega
    have hBhB : Bh ≠ B := by have := hB.out; have := hBh.out; omega
    replace hrun := Lib.hid hrun
    replace hmk := Lib.hid hmk
    replace hout := Lib.hid hout
    go_wp2_with fail
    go_at_call 49
    refine hta.out.mono ?_
    rintro e W1 ⟨rfl, g1⟩
    clear hta dh dx
    replace hrun := Lib.hid (hrun.out.gr (Nat.le_of_lt lg) g1)
    replace hmk := Lib.hid (hmk.out.keep (KT2.others (KT2.of_gr (t := 91) (u := 35) g1)))
    clear g1
    have dh := hrun.out.bh.cell 0
    have dx := hrun.out.bx.cell 0
    have fin : ∀ (U9 : World) (out9 : List Tok) (A9 : Option Addr) (c9 : Nat), True := fun _ _ _ _ => trivial
    cases htp : tailP X.s X.b at_ with
    | true =>
      have ht' := htp
      unfold tailP at ht'
      simp only [Bool.and_eq_true, decide_eq_true_eq, beq_iff_eq] at ht'
      obtain ⟨⟨t1, t2⟩, t3⟩ := ht'
      clear t3
      rw [htl.out] at t1 t2
      obtain ⟨p, hp⟩ : ∃ p : Nat, p = X.b.length - tl := ⟨_, rfl⟩
      have hpe : (X.b.length : Int) - X.s.tail = (p : Int) := by rw [htl.out]; omega
      rw [hpe]
      have ho := hout.out
      unfold tailL at ho
      rw [htp, if_pos rfl, ztn.out, ← hp] at ho
      have hpl := Lib.hid (plain_any g X last out at_ p W1 hrun.out.hn (hrb.out.below hrun.out.bl) hcb.out hbl (by omega) (by omega))
      replace ho := Lib.hid ho
      clear hout t1 t2 hpe
      replace hp := Lib.hid hp
      replace htp := Lib.hid htp
      go_wp2_with fail
      go_at_call 47
      refine hpl.out.mono ?_
      rintro e W2 ⟨rfl, n2, k2, b2⟩
      have hrun2 := hrun.out.on n2 k2 b2
      have hmk2 := Lib.hid (hmk.out.keep k2.others)
      clear hpl dh dx hrun hmk n2 k2 b2
      have hbh := Lib.hid hrun2.bh
      have hbx := Lib.hid hrun2.bx
      obtain ⟨ov, hb, _⟩ := hrun2.hn
      unfold hcells at hb
      rw [hsz.out] at hb
      replace hb := Lib.hid hb
      replace hrun2 := Lib.hid hrun2
      go_wp2
      refine region_grow rfl (by kernel_rfl) ?_
      refine GW.p1 (.pointer (some ⟨g, 0, none⟩)) rfl trivial (kn0 (t := 1) (c := .pointer (some ⟨Bh, 0, none⟩)) (by kernel_rfl) rfl) (fun ρ w' hρ hg => by simp [execOp, hρ, go_sem, (hg.cell (p := ⟨Bh, 0, none⟩) hbh.out.lt).trans (hbh.out.cell 0)]) ?_
      refine GW.p1 (.pointer (some ⟨g, 0, none⟩)) rfl trivial (kn0 (t := 1) (c := .pointer (some ⟨Bh, 0, none⟩)) (by kernel_rfl) rfl) (fun ρ w' hρ hg => by simp [execOp, hρ, go_sem, (hg.cell (p := ⟨Bh, 0, none⟩) hbh.out.lt).trans (hbh.out.cell 0)]) ?_
      refine GW.p1 (.pointer (some ⟨g, 0, none⟩)) rfl trivial (kn (t := 76) (j := 1) (by kernel_rfl)) (fun ρ w' hρ hg => by simp [execOp, hρ, go_sem]) ?_
      refine GW.p1 (.pointer (some ⟨g, 0, none⟩)) rfl trivial (kn (t := 77) (j := 2) (by kernel_rfl)) (fun ρ w' hρ hg => by simp [execOp, hρ, go_sem]) ?_
      refine GW.p1 (.pointer (some ⟨g, 1, none⟩)) rfl trivial (kn (t := 78) (j := 3) (by kernel_rfl)) (fun ρ w' hρ hg => by simp [execOp, hρ, go_sem]) ?_
      refine GW.p1 (.slice X.A1 X.s.bs.length X.c1) rfl trivial (kn (t := 79) (j := 4) (by kernel_rfl)) (fun ρ w' hρ hg => by simp [execOp, hρ, go_sem, (hg.cell (p := ⟨g, 1, none⟩) hb.out.lt).trans (hb.out.cell 1)]) ?_
      refine GW.lenV rfl trivial rfl Try.underlying64 (kn (t := 80) (j := 5) (by kernel_rfl)) ?_
      refine GW.tailT (m := 7) (by simp) (by kernel_rfl) (by kernel_rfl) (fun w' hg => ?_)
      rintro v0 h0 v1 - v2 - v3 - v4 - v5 - v6 h6
      obtain rfl : v0 = (.pointer (some ⟨g, 0, none⟩)) := h0
      obtain rfl : v6 = (.int .i64 ((X.s.bs.length : Nat) : Int)) := h6
      simp only [GFin, List.take_succ_cons, List.take_zero, List.drop_succ_cons, List.drop_zero, Act.put, List.setIfInBounds_toArray, List.set_cons_succ, List.set_cons_zero]
      have hrun3 := hrun2.out.gr (Nat.le_of_lt lg) hg
      have hmk3 := Lib.hid (hmk2.out.keep (KT2.others (KT2.of_gr (t := 91) (u := 35) hg)))
      have hol2 : (out ++ lit X.b at_ p).length ≤ 1000000 := by
        have := lit_len X.b at_ p
        rw [List.length_append]
        omega
      have hcp := Lib.hid (copied_any g X last (out ++ lit X.b at_ p) X.s.bs.length w' hrun3.hn (by omega) hol2)
      replace hrun3 := Lib.hid hrun3
      clear hg hrun2 hmk2 hbh hbx hb
      go_wp2_with fail
      go_at_call 48
      refine hcp.out.mono ?_
      rintro e W3 ⟨rfl, n3, k3, b3⟩
      have hrun4 := hrun3.out.on n3 k3 b3
      have hmk4 := Lib.hid (hmk3.out.keep k3.others)
      have dh4 := hrun4.bh.cell 0
      have fx4 := hrun4.bx.frozen 0
      have cx4 := hrun4.bx.cell 0
      obtain ⟨ov4, hb4, _⟩ := hrun4.hn
      unfold hcells at hb4
      have d74 := hb4.cell 7
      clear hb4 n3 k3 b3 hrun3 hmk3 hcp
      have hrun5 := Lib.hid (hrun4.goes hgB hwB hBhB X.b.length)
      have hmk5 := Lib.hid (hmk4.out.keep (KeepsOthers.setCell W3 ⟨B, 0, none⟩ (.int .i64 (X.b.length : Int))))
      replace hrun4 := Lib.hid hrun4
      go_wp2
      clear dh4 fx4 cx4 d74 hrun4 hmk4
      generalize W3.setCell ⟨B, 0, none⟩ (.int .i64 (X.b.length : Int)) = W5 at hrun5 hmk5 ⊢
      have hbh := Lib.hid hrun5.out.bh
      have hbx := Lib.hid hrun5.out.bx
      obtain ⟨ov, hb, _⟩ := hrun5.out.hn
      unfold hcells at hb
      rw [hsz.out] at hb
      replace hb := Lib.hid hb
      have hL9 := Lib.hid (show out ++ lit X.b at_ p ++ [⟨(X.s.bs.length : Int), 1, []⟩] ++ lit X.b X.b.length X.b.length = L by
        rw [← ho.out]
        unfold lit
        rw [if_neg (Nat.lt_irrefl X.b.length)]
        simp)
      go_wp2
      refine region_grow rfl (by kernel_rfl) ?_
      refine GW.p1 (.pointer (some ⟨g, 0, none⟩)) rfl trivial (kn0 (t := 1) (c := .pointer (some ⟨Bh, 0, none⟩)) (by kernel_rfl) rfl) (fun ρ w' hρ hg => by simp [execOp, hρ, go_sem, (hg.cell (p := ⟨Bh, 0, none⟩) hbh.out.lt).trans (hbh.out.cell 0)]) ?_
      refine GW.p1 (.int .i64 (X.b.length : Int)) rfl trivial (kn0 (t := 3) (c := .pointer (some ⟨B, 0, none⟩)) (by kernel_rfl) rfl) (fun ρ w' hρ hg => by simp [execOp, hρ, go_sem, (hg.cell (p := ⟨B, 0, none⟩) hbx.out.lt).trans (hbx.out.cell 0)]) ?_
      refine GW.p1 (.pointer (some ⟨g, 0, none⟩)) rfl trivial (kn0 (t := 1) (c := .pointer (some ⟨Bh, 0, none⟩)) (by kernel_rfl) rfl) (fun ρ w' hρ hg => by simp [execOp, hρ, go_sem, (hg.cell (p := ⟨Bh, 0, none⟩) hbh.out.lt).trans (hbh.out.cell 0)]) ?_
      refine GW.p1 (.pointer (some ⟨g, 0, none⟩)) rfl trivial (kn (t := 90) (j := 2) (by kernel_rfl)) (fun ρ w' hρ hg => by simp [execOp, hρ, go_sem]) ?_
      refine GW.p1 (.pointer (some ⟨g, 7, none⟩)) rfl trivial (kn (t := 91) (j := 3) (by kernel_rfl)) (fun ρ w' hρ hg => by simp [execOp, hρ, go_sem]) ?_
      refine GW.p1 (.slice X.Ab X.b.length X.cb) rfl trivial (kn (t := 92) (j := 4) (by kernel_rfl)) (fun ρ w' hρ hg => by simp [execOp, hρ, go_sem, (hg.cell (p := ⟨g, 7, none⟩) hb.out.lt).trans (hb.out.cell 7)]) ?_
      refine GW.lenV rfl trivial rfl Try.underlying22 (kn (t := 93) (j := 5) (by kernel_rfl)) ?_
      refine GW.tailT (m := 7) (by simp) (by kernel_rfl) (by kernel_rfl) (fun w' hg => ?_)
      rintro v0 h0 v1 h1 v2 - v3 - v4 - v5 - v6 h6
      obtain rfl : v0 = (.pointer (some ⟨g, 0, none⟩)) := h0
      obtain rfl : v1 = (.int .i64 (X.b.length : Int)) := h1
      obtain rfl : v6 = (.int .i64 ((X.b.length : Nat) : Int)) := h6
      simp only [GFin, List.take_succ_cons, List.take_zero, List.drop_succ_cons, List.drop_zero, Act.put, List.setIfInBounds_toArray, List.set_cons_succ, List.set_cons_zero]
      have hol9 : (out ++ lit X.b at_ p ++ [(⟨(X.s.bs.length : Int), 1, []⟩ : Tok)]).length ≤ 1000000 := by
        have h1 := lit_len X.b at_ X.b.length
        have h2 := congrArg List.length hL9.out
        simp only [List.length_append] at h2 ⊢
        omega
      have hrun6 := hrun5.out.gr (Nat.le_of_lt lg) hg
      have hmk6 := Lib.hid (hmk5.out.keep (KT2.others (KT2.of_gr (t := 91) (u := 35) hg)))
      have hpl9 := Lib.hid (plain_any g X ((X.s.bs.length : Int) + 1) (out ++ lit X.b at_ p ++ [(⟨(X.s.bs.length : Int), 1, []⟩ : Tok)]) X.b.length X.b.length w' hrun6.hn (hrb.out.below hrun6.bl) hcb.out hbl (Nat.le_refl _) hol9)
      replace hrun6 := Lib.hid hrun6
      clear hg hrun5 hmk5 hbh hbx hb
      go_wp2_with fail
      go_at_call 47
      refine hpl9.out.mono ?_
      rintro e W7 ⟨rfl, n7, k7, b7⟩
      have hrun7 := hrun6.out.on n7 k7 b7
      have hmk7 := Lib.hid (hmk6.out.keep k7.others)
      rw [hL9.out] at hrun7
      have dh7 := hrun7.bh.cell 0
      obtain ⟨ov7, hb7, ho7⟩ := hrun7.hn
      unfold hcells at hb7
      obtain ⟨A7, c7, rfl, hc7, hm7⟩ := ho7.shape
      have d97 := hb7.cell 9
      have hfit : Fits L := ⟨by omega, fun t ht => (right_fit (huntF_right hrt hbl _ _ _ t (hL.out ▸ ht))).1⟩
      have hjo := Lib.hid (join_out A7 c7 L W7 ho7.tr hfit (by omega))
      have bl7 := Lib.hid hrun7.bl
      have sz7 := hrun7.hn.lt
      clear hrun7 hb7 ho7 n7 k7 b7 hrun6 hmk6 hpl9
      go_wp2_with fail
      go_at_call 50
      refine hjo.out.mono ?_
      rintro e W8 ⟨A9, c9, rfl, o9, g9⟩
      have hmk8 := hmk7.out.keep (KT2.others (KT2.of_gr (t := 91) (u := 35) g9))
      have bl8 := bl7.out.trans (Below.mono g9 (Nat.le_of_lt sz7))
      have o9' := OR.base_le o9 (Nat.succ_le_of_lt sz7)
      clear dh7 d97 hjo hmk7 bl7
      go_wp2
      refine leaves_marks (F := Fence.wide) (n := 5) (B := w.heap.size) (fun Y => Below g w Y ∧ OT 35 Y (g + 1) (.slice A9 (join L).length c9) (join L)) ?_ ?_ Ds W8 hmk8 ⟨bl8, o9'⟩
      · rintro Y D ⟨q1, q2⟩ hD hd
        have gr := grownBy_putObj' Y D (.deferred none)
        exact ⟨q1.grown gr (by have := q1.size; omega) (fun k e => by cases e; omega), or_own q2 gr (fun r e => by cases e; exact ⟨_, hd, rfl⟩)⟩
      · rintro Y ⟨q1, q2⟩
        exact ⟨_, results_tmp rfl _ _ _, ⟨A9, c9, rfl, q2, q1⟩⟩
    | false =>
      have ho := hout.out
      unfold tailL at ho
      rw [htp, if_neg (by simp)] at ho
      replace htp := Lib.hid htp
      clear hout
      go_wp2
      clear dh dx
      have hrun5 := hrun
      have hmk5 := hmk
      clear hrun hmk
      have hbh := Lib.hid hrun5.out.bh
      have hbx := Lib.hid hrun5.out.bx
      obtain ⟨ov, hb, _⟩ := hrun5.out.hn
      unfold hcells at hb
      rw [hsz.out] at hb
      replace hb := Lib.hid hb
      have hL9 := Lib.hid ho
      clear ho
      go_wp2
      refine region_grow rfl (by kernel_rfl) ?_
      refine GW.p1 (.pointer (some ⟨g, 0, none⟩)) rfl trivial (kn0 (t := 1) (c := .pointer (some ⟨Bh, 0, none⟩)) (by kernel_rfl) rfl) (fun ρ w' hρ hg => by simp [execOp, hρ, go_sem, (hg.cell (p := ⟨Bh, 0, none⟩) hbh.out.lt).trans (hbh.out.cell 0)]) ?_
      refine GW.p1 (.int .i64 (at_ : Int)) rfl trivial (kn0 (t := 3) (c := .pointer (some ⟨B, 0, none⟩)) (by kernel_rfl) rfl) (fun ρ w' hρ hg => by simp [execOp, hρ, go_sem, (hg.cell (p := ⟨B, 0, none⟩) hbx.out.lt).trans (hbx.out.cell 0)]) ?_
      refine GW.p1 (.pointer (some ⟨g, 0, none⟩)) rfl trivial (kn0 (t := 1) (c := .pointer (some ⟨Bh, 0, none⟩)) (by kernel_rfl) rfl) (fun ρ w' hρ hg => by simp [execOp, hρ, go_sem, (hg.cell (p := ⟨Bh, 0, none⟩) hbh.out.lt).trans (hbh.out.cell 0)]) ?_
      refine GW.p1 (.pointer (some ⟨g, 0, none⟩)) rfl trivial (kn (t := 90) (j := 2) (by kernel_rfl)) (fun ρ w' hρ hg => by simp [execOp, hρ, go_sem]) ?_
      refine GW.p1 (.pointer (some ⟨g, 7, none⟩)) rfl trivial (kn (t := 91) (j := 3) (by kernel_rfl)) (fun ρ w' hρ hg => by simp [execOp, hρ, go_sem]) ?_
      refine GW.p1 (.slice X.Ab X.b.length X.cb) rfl trivial (kn (t := 92) (j := 4) (by kernel_rfl)) (fun ρ w' hρ hg => by simp [execOp, hρ, go_sem, (hg.cell (p := ⟨g, 7, none⟩) hb.out.lt).trans (hb.out.cell 7)]) ?_
      refine GW.lenV rfl trivial rfl Try.underlying22 (kn (t := 93) (j := 5) (by kernel_rfl)) ?_
      refine GW.tailT (m := 7) (by simp) (by kernel_rfl) (by kernel_rfl) (fun w' hg => ?_)
      rintro v0 h0 v1 h1 v2 - v3 - v4 - v5 - v6 h6
      obtain rfl : v0 = (.pointer (some ⟨g, 0, none⟩)) := h0
      obtain rfl : v1 = (.int .i64 (at_ : Int)) := h1
      obtain rfl : v6 = (.int .i64 ((X.b.length : Nat) : Int)) := h6
      simp only [GFin, List.take_succ_cons, List.take_zero, List.drop_succ_cons, List.drop_zero, Act.put, List.setIfInBounds_toArray, List.set_cons_succ, List.set_cons_zero]
      have hol9 : (out).length ≤ 1000000 := by
        have h1 := lit_len X.b at_ X.b.length
        have h2 := congrArg List.length hL9.out
        simp only [List.length_append] at h2 ⊢
        omega
      have hrun6 := hrun5.out.gr (Nat.le_of_lt lg) hg
      have hmk6 := Lib.hid (hmk5.out.keep (KT2.others (KT2.of_gr (t := 91) (u := 35) hg)))
      have hpl9 := Lib.hid (plain_any g X (last) (out) at_ X.b.length w' hrun6.hn (hrb.out.below hrun6.bl) hcb.out hbl (Nat.le_refl _) hol9)
      replace hrun6 := Lib.hid hrun6
      clear hg hrun5 hmk5 hbh hbx hb
      go_wp2_with fail
      go_at_call 47
      refine hpl9.out.mono ?_
      rintro e W7 ⟨rfl, n7, k7, b7⟩
      have hrun7 := hrun6.out.on n7 k7 b7
      have hmk7 := Lib.hid (hmk6.out.keep k7.others)
      rw [hL9.out] at hrun7
      have dh7 := hrun7.bh.cell 0
      obtain ⟨ov7, hb7, ho7⟩ := hrun7.hn
      unfold hcells at hb7
      obtain ⟨A7, c7, rfl, hc7, hm7⟩ := ho7.shape
      have d97 := hb7.cell 9
      have hfit : Fits L := ⟨by omega, fun t ht => (right_fit (huntF_right hrt hbl _ _ _ t (hL.out ▸ ht))).1⟩
      have hjo := Lib.hid (join_out A7 c7 L W7 ho7.tr hfit (by omega))
      have bl7 := Lib.hid hrun7.bl
      have sz7 := hrun7.hn.lt
      clear hrun7 hb7 ho7 n7 k7 b7 hrun6 hmk6 hpl9
      go_wp2_with fail
      go_at_call 50
      refine hjo.out.mono ?_
      rintro e W8 ⟨A9, c9, rfl, o9, g9⟩
      have hmk8 := hmk7.out.keep (KT2.others (KT2.of_gr (t := 91) (u := 35) g9))
      have bl8 := bl7.out.trans (Below.mono g9 (Nat.le_of_lt sz7))
      have o9' := OR.base_le o9 (Nat.succ_le_of_lt sz7)
      clear dh7 d97 hjo hmk7 bl7
      go_wp2
      refine leaves_marks (F := Fence.wide) (n := 5) (B := w.heap.size) (fun Y => Below g w Y ∧ OT 35 Y (g + 1) (.slice A9 (join L).length c9) (join L)) ?_ ?_ Ds W8 hmk8 ⟨bl8, o9'⟩
      · rintro Y D ⟨q1, q2⟩ hD hd
        have gr := grownBy_putObj' Y D (.deferred none)
        exact ⟨q1.grown gr (by have := q1.size; omega) (fun k e => by cases e; omega), or_own q2 gr (fun r e => by cases e; exact ⟨_, hd, rfl⟩)⟩
      · rintro Y ⟨q1, q2⟩
        exact ⟨_, results_tmp rfl _ _ _, ⟨A9, c9, rfl, q2, q1⟩⟩
end Se
end Go.Proofs.Ytgnogoghfendpaa
namespace Go.Proofs.Ytgnogoghfendpaa
open Go Go.RowKit Go.Shelf W Sg Tk
namespace Se
theorem intRow : RowType Try.prog 3 1 8 := by
  obtain ⟨i, h1, h2, h3, h4⟩ := info_parts (show (Try.prog.info? 3).map (fun i => (i.zero, i.size, i.bytes)) = some (some (.int .i64 0), 1, 8) by kernel_rfl)
  exact ⟨i, _, h1, h2, h3, h4, rfl, by omega⟩
theorem exec_lookup {P : Program} {ρ : Operand → Value} {w : World} {o : Oper} {v u r : Value} (m x : Operand) (T : TypeId) (ho : o.op = .lookup T m x false) (hs : ρ m = v) (hx : ρ x = u) (hrun : (Instr.lookup T v u false).run P w = .ok r w) : (execOp ρ o).run P w = .ok (.value r) w := by
  simp [execOp, ho, hs, hx, hrun, Result.andThen]
set_option maxRecDepth 100000 in
set_option maxHeartbeats 8000000 in
theorem open_any (s : Sig) (A1 Ab : Option Addr) (c1 cb : Nat) (b : List UInt8) (w : World) (hsr : SR w w.heap.size A1 s.bs) (hnl : s.bs.length ≤ 1000000) :
    Calls Try.prog 38 #[sigV s A1 c1, .slice Ab b.length cb] w fun e w' => ∃ g mb, e = .returned (.pointer (some ⟨g, 0, none⟩)) ∧ w.heap.size ≤ g ∧ Hn w' g ⟨s, A1, c1, .map (some mb), Ab, cb, b⟩ (-1) [] ∧ WM w' mb s.bs ∧ Gr w w' := by
  have hmm := @run_makeMap Try.prog
  replace hsr := Lib.hid hsr
  go_enter Try.func38, Try.ntmps38
  go_wp2
  have g1 := (Gr.refl w).alloc (.cells #[.int .i64 s.size, .slice A1 s.bs.length c1, .int .i64 s.tail, .int .u32 (n32 s.last.1), .int .u64 (n64 s.last.2.1), .int .u64 (n64 s.last.2.2)] 69)
  have m1 := World.ownsGroups_made (H := Unit) (w.alloc (.cells #[.int .i64 s.size, .slice A1 s.bs.length c1, .int .i64 s.tail, .int .u32 (n32 s.last.1), .int .u64 (n64 s.last.2.1), .int .u64 (n64 s.last.2.2)] 69)) Try.prog 65 3 .i64
  have b3 := Blk.new ((w.alloc (.cells #[.int .i64 s.size, .slice A1 s.bs.length c1, .int .i64 s.tail, .int .u32 (n32 s.last.1), .int .u64 (n64 s.last.2.1), .int .u64 (n64 s.last.2.2)] 69)).alloc (.map #[] 0)) 91 #[.int .i64 s.size, .slice A1 s.bs.length c1, .int .i64 s.tail, .int .u32 (n32 s.last.1), .int .u64 (n64 s.last.2.1), .int .u64 (n64 s.last.2.2), .map (some (w.heap.size + 1)), .slice Ab b.length cb, .int .i64 (-1), .slice none 0 0]
  have s3 : (((w.alloc (.cells #[.int .i64 s.size, .slice A1 s.bs.length c1, .int .i64 s.tail, .int .u32 (n32 s.last.1), .int .u64 (n64 s.last.2.1), .int .u64 (n64 s.last.2.2)] 69)).alloc (.map #[] 0)).alloc (.cells #[.int .i64 s.size, .slice A1 s.bs.length c1, .int .i64 s.tail, .int .u32 (n32 s.last.1), .int .u64 (n64 s.last.2.1), .int .u64 (n64 s.last.2.2), .map (some (w.heap.size + 1)), .slice Ab b.length cb, .int .i64 (-1), .slice none 0 0] 91)).heap.size = w.heap.size + 1 + 1 + 1 := by simp
  rw [World.size_alloc] at m1 b3
  rw [World.size_alloc] at b3
  have G3 := ((g1.alloc (.map #[] 0)).alloc (.cells #[.int .i64 s.size, .slice A1 s.bs.length c1, .int .i64 s.tail, .int .u32 (n32 s.last.1), .int .u64 (n64 s.last.2.1), .int .u64 (n64 s.last.2.2), .map (some (w.heap.size + 1)), .slice Ab b.length cb, .int .i64 (-1), .slice none 0 0] 91))
  have W0 : WM (((w.alloc (.cells #[.int .i64 s.size, .slice A1 s.bs.length c1, .int .i64 s.tail, .int .u32 (n32 s.last.1), .int .u64 (n64 s.last.2.1), .int .u64 (n64 s.last.2.2)] 69)).alloc (.map #[] 0)).alloc (.cells #[.int .i64 s.size, .slice A1 s.bs.length c1, .int .i64 s.tail, .int .u32 (n32 s.last.1), .int .u64 (n64 s.last.2.1), .int .u64 (n64 s.last.2.2), .map (some (w.heap.size + 1)), .slice Ab b.length cb, .int .i64 (-1), .slice none 0 0] 91)) (w.heap.size + 1) (s.bs.take 0) := WM.gr ⟨_, m1, fun x => rfl⟩ ((Gr.refl _).alloc _)
  generalize (((w.alloc (.cells #[.int .i64 s.size, .slice A1 s.bs.length c1, .int .i64 s.tail, .int .u32 (n32 s.last.1), .int .u64 (n64 s.last.2.1), .int .u64 (n64 s.last.2.2)] 69)).alloc (.map #[] 0)).alloc (.cells #[.int .i64 s.size, .slice A1 s.bs.length c1, .int .i64 s.tail, .int .u32 (n32 s.last.1), .int .u64 (n64 s.last.2.1), .int .u64 (n64 s.last.2.2), .map (some (w.heap.size + 1)), .slice Ab b.length cb, .int .i64 (-1), .slice none 0 0] 91)) = W3 at b3 s3 G3 W0 ⊢
  obtain ⟨mb, hmb⟩ : ∃ mb, mb = w.heap.size + 1 := ⟨_, rfl⟩
  obtain ⟨g, hg⟩ : ∃ g, g = mb + 1 := ⟨_, rfl⟩
  rw [← hmb] at b3 W0 s3 ⊢
  rw [← hg] at b3 s3 ⊢
  clear m1 g1 hmm
  replace hmb := Lib.hid hmb
  replace hg := Lib.hid hg
  replace b3 := Lib.hid b3
  replace W0 := Lib.hid W0
  replace G3 := Lib.hid G3
  go_loopw [6, 7, 16] (fun _ _ i wr => ∃ k : Nat, k ≤ s.bs.length ∧ i = .int .i64 (k : Int) ∧ Hid (WM wr mb (s.bs.take k)) ∧ Hid (Blk wr g 91 #[.int .i64 s.size, .slice A1 s.bs.length c1, .int .i64 s.tail, .int .u32 (n32 s.last.1), .int .u64 (n64 s.last.2.1), .int .u64 (n64 s.last.2.2), .map (some mb), .slice Ab b.length cb, .int .i64 (-1), .slice none 0 0]) ∧ Hid (Gr w wr)) (fun _ _ i _ => s.bs.length - (intOf i).toNat)
  case atStart => exact ⟨0, by omega, rfl, W0, b3, G3⟩
  case round =>
    obtain ⟨k, hk, rfl, hwm, hbr, gr⟩ := hrel
    clear W0 b3 G3 s3
    by_cases hkl : k < s.bs.length
    · obtain ⟨ad, rfl, hlt, e0, e1, e2⟩ := (hsr.out.below gr.out).at_ hkl
      have ij : (k : Int) < (s.bs.length : Int) := by omega
      have htk : s.bs.take (k + 1) = s.bs.take k ++ [s.bs[k]] := List.take_succ_eq_append_getElem hkl
      have hlk : (s.bs.take k).length = k := by rw [List.length_take]; omega
      generalize s.bs[k] = y at *
      go_wp2
      have Wa := (Gr.refl wr).alloc (.cells #[.int .u32 (n32 y.1), .int .u64 (n64 y.2.1), .int .u64 (n64 y.2.2)] 67)
      have x7 := Blk.new wr 67 #[.int .u32 (n32 y.1), .int .u64 (n64 y.2.1), .int .u64 (n64 y.2.2)]
      have hbW := Lib.hid (blk_more hbr.out Wa)
      obtain ⟨D, hD0, hI⟩ := hwm.out
      rw [hlk] at hD0
      have hD := Lib.hid (groups_kt (KT2.of_gr (t := 91) (u := 35) Wa) hD0 (by decide) (by decide))
      have GW8 := gr.out.trans Wa
      have szW : wr.heap.size < (wr.alloc (.cells #[.int .u32 (n32 y.1), .int .u64 (n64 y.2.1), .int .u64 (n64 y.2.2)] 67)).heap.size := by simp
      generalize (wr.alloc (.cells #[.int .u32 (n32 y.1), .int .u64 (n64 y.2.1), .int .u64 (n64 y.2.2)] 67)) = W8 at x7 hbW hD GW8 szW Wa ⊢
      have hmbW : mb + 1 ≤ W8.heap.size := by rw [← hg.out]; exact Nat.le_of_lt hbW.out.lt
      generalize wr.heap.size = n7 at x7 szW ⊢
      replace x7 := Lib.hid x7
      replace hI := Lib.hid hI
      refine region_grow rfl (by kernel_rfl) ?_
      refine GW.mv rfl trivial (.inl rfl) (kn0 (t := 5) (c := .pointer (some ⟨g, 0, none⟩)) (by kernel_rfl) rfl) (eqv_lasts _) ?_
      refine GW.p1 (.pointer (some ⟨g, 0, none⟩)) rfl trivial (kn (t := 21) (j := 0) (by kernel_rfl)) (fun ρ w' hρ hg => by simp [execOp, hρ, go_sem]) ?_
      refine GW.p1 (.pointer (some ⟨g, 6, none⟩)) rfl trivial (kn (t := 22) (j := 1) (by kernel_rfl)) (fun ρ w' hρ hg => by simp [execOp, hρ, go_sem]) ?_
      refine GW.p1 (.map (some mb)) rfl trivial (kn (t := 23) (j := 2) (by kernel_rfl)) (fun ρ w' hρ hg => by simp [execOp, hρ, go_sem, (hg.cell (p := ⟨g, 6, none⟩) hbW.out.lt).trans (hbW.out.cell 6)]) ?_
      refine GW.p1 (.pointer (some ⟨n7, 0, none⟩)) rfl trivial (kn0 (t := 7) (c := .pointer (some ⟨n7, 0, none⟩)) (by kernel_rfl) rfl) (fun ρ w' hρ hg => by simp [execOp, hρ, go_sem]) ?_
      refine GW.p1 (.int .u32 (n32 y.1)) rfl trivial (kn (t := 25) (j := 4) (by kernel_rfl)) (fun ρ w' hρ hg => by simp [execOp, hρ, go_sem, (hg.cell (p := ⟨n7, 0, none⟩) x7.out.lt).trans (x7.out.cell 0)]) ?_
      refine GW.mv rfl trivial (.inl rfl) (kn0 (t := 5) (c := .pointer (some ⟨g, 0, none⟩)) (by kernel_rfl) rfl) (eqv_lasts _) ?_
      refine GW.p1 (.pointer (some ⟨g, 0, none⟩)) rfl trivial (kn (t := 27) (j := 6) (by kernel_rfl)) (fun ρ w' hρ hg => by simp [execOp, hρ, go_sem]) ?_
      refine GW.p1 (.pointer (some ⟨g, 6, none⟩)) rfl trivial (kn (t := 28) (j := 7) (by kernel_rfl)) (fun ρ w' hρ hg => by simp [execOp, hρ, go_sem]) ?_
      refine GW.p1 (.map (some mb)) rfl trivial (kn (t := 29) (j := 8) (by kernel_rfl)) (fun ρ w' hρ hg => by simp [execOp, hρ, go_sem, (hg.cell (p := ⟨g, 6, none⟩) hbW.out.lt).trans (hbW.out.cell 6)]) ?_
      refine GW.p1 (.pointer (some ⟨n7, 0, none⟩)) rfl trivial (kn0 (t := 7) (c := .pointer (some ⟨n7, 0, none⟩)) (by kernel_rfl) rfl) (fun ρ w' hρ hg => by simp [execOp, hρ, go_sem]) ?_
      refine GW.p1 (.int .u32 (n32 y.1)) rfl trivial (kn (t := 31) (j := 10) (by kernel_rfl)) (fun ρ w' hρ hg => by simp [execOp, hρ, go_sem, (hg.cell (p := ⟨n7, 0, none⟩) x7.out.lt).trans (x7.out.cell 0)]) ?_
      refine GW.bi (isGrp mb k D y.1) rfl trivial (kn (t := 30) (j := 9) (by kernel_rfl)) (kn (t := 32) (j := 11) (by kernel_rfl)) (isGrp_lasts _ _ _ _) (fun a w' hg hv hu => ?_) ?_
      · obtain ⟨v, hrun, hgr⟩ := grp_at (groups_kt (KT2.of_gr (t := 91) (u := 35) hg) hD.out (by decide) (by decide)) (by omega) y.1
        exact .inl ⟨v, w', exec_lookup (.tmp 30) (.tmp 32) 89 rfl hv hu hrun, Gr.refl _, hgr⟩
      refine GW.mv rfl trivial (.inl rfl) (kn0 (t := 6) (c := .int .i64 (k : Int)) (by kernel_rfl) rfl) (eqv_lasts _) ?_
      refine GW.rowsN (E := 3) (size := 1) #[(0, .int .i64 (k : Int))] #[.int .i64 (k : Int)] rfl (by omega) rfl trivial rfl ⟨rfl, (kn (t := 34) (j := 13) (by kernel_rfl)), trivial⟩ (fun w => by kernel_rfl) ?_
      refine GW.lateE (m := 15) [0, 1, 2, 3, 4, 5] rfl rfl rfl (by kernel_rfl) (by kernel_rfl) (by kernel_rfl) (fun i hi => ?_) (by kernel_rfl) (fun a8 w8 hg8 hkn => ?_)
      · match i, hi with
        | 0, _ => exact ⟨_, rfl⟩
        | 1, _ => exact ⟨_, rfl⟩
        | 2, _ => exact ⟨_, rfl⟩
        | 3, _ => exact ⟨_, rfl⟩
        | 4, _ => exact ⟨_, rfl⟩
        | 5, _ => exact ⟨_, rfl⟩
        | n + 6, hi => exact absurd hi (by simp [inL])
      obtain ⟨A8, c8, hu, hr8⟩ := (kn (t := 35) (j := 14) (by kernel_rfl)) a8 w8 hg8 hkn
      obtain ⟨zs, hat, hoi, hzl, hback⟩ := (kn (t := 33) (j := 12) (by kernel_rfl)) a8 w8 hg8 hkn
      obtain ⟨v33, hs8⟩ : ∃ v, a8.eval (.tmp 33) = v := ⟨_, rfl⟩
      rw [hs8] at hat hoi hback
      have oA : OR 3 1 w8 (mb + 1) v33 zs.length (zs.map (Value.int .i64)) := hoi.1
      obtain ⟨A9, c9, wA, hrun, o9, _, k9, n9⟩ := run_append_rows (P := Try.prog) (w := w8) (base := mb + 1) (E := 3) (size := 1) (n := zs.length) (v := v33) (xs := zs.map (Value.int .i64)) 92 92 Try.underlying92 intRow oA w8.heap.size A8 1 c8 [.int .i64 (k : Int)] hr8 (by simp [Value.oneCell']) (by unfold maxLen; omega) (by omega) (Nat.le_trans hmbW hg8.size)
      have kt := KT2.of_grown (t := 3) (u := 3) k9 (fun m hm => by obtain ⟨cs, fr, h⟩ := or_typ oA m hm; exact ⟨cs, fr, .inl h⟩)
      have hbA := kt.blk (blk_more hbW.out hg8) (by decide) (by decide)
      have xA := kt.blk (blk_more x7.out hg8) (by decide) (by decide)
      refine ⟨.slice A9 (zs.length + 1) c9, wA, ?_, fun i o hi hE ho => ?_, fun w9 hg9 => ?_⟩
      · exact exec_append (.tmp 33) (.tmp 35) 92 rfl hs8 hu hrun
      · match i, hi, hE, ho with
        | 0, _, _, ho =>
          obtain rfl := Option.some.inj ho
          exact late_p1 rfl rfl rfl (kn0 (t := 5) (c := .pointer (some ⟨g, 0, none⟩)) (by kernel_rfl) rfl) (fun ρ w' hρ hg => by simp [execOp, hρ, go_sem]; try rfl)
        | 1, _, _, ho =>
          obtain rfl := Option.some.inj ho
          exact late_p1 rfl rfl rfl (kn (t := 21) (j := 0) (by kernel_rfl)) (fun ρ w' hρ hg => by simp [execOp, hρ, go_sem])
        | 2, _, _, ho =>
          obtain rfl := Option.some.inj ho
          exact late_p1 rfl rfl rfl (kn (t := 22) (j := 1) (by kernel_rfl)) (fun ρ w' hρ hg => by simp [execOp, hρ, go_sem])
        | 3, _, _, ho =>
          obtain rfl := Option.some.inj ho
          exact late_p1 rfl rfl rfl (kn (t := 23) (j := 2) (by kernel_rfl)) (fun ρ w' hρ hg => by simp [execOp, hρ, go_sem, (blk_more hbA hg).cell 6])
        | 4, _, _, ho =>
          obtain rfl := Option.some.inj ho
          exact late_p1 rfl rfl rfl (kn0 (t := 7) (c := .pointer (some ⟨n7, 0, none⟩)) (by kernel_rfl) rfl) (fun ρ w' hρ hg => by simp [execOp, hρ, go_sem])
        | 5, _, _, ho =>
          obtain rfl := Option.some.inj ho
          exact late_p1 rfl rfl rfl (kn (t := 25) (j := 4) (by kernel_rfl)) (fun ρ w' hρ hg => by simp [execOp, hρ, go_sem, (blk_more xA hg).cell 0])
        | n + 6, _, hE, _ => exact absurd hE (by simp [inL])
      intro v0 _ v1 _ v2 _ v3 h3 v4 _ v5 h5 v6 _ v7 _ v8 _ v9 _ v10 _ v11 _ v12 _ v13 _ v14 _ v15 h15
      obtain rfl : v3 = .map (some mb) := h3
      obtain rfl : v5 = .int .u32 (n32 y.1) := h5
      obtain rfl : v15 = .slice A9 (zs.length + 1) c9 := h15
      simp only [GFin, List.take_succ_cons, List.take_zero, List.drop_succ_cons, List.drop_zero, Act.put, List.setIfInBounds_toArray, List.set_cons_succ, List.set_cons_zero]
      have ho9 : w9.ownsInts (mb + 1) 3 .i64 (.slice A9 (zs.length + 1) c9) (zs ++ [(k : Int)]) := hoi.appended (OR.below o9 hg9) (WalkArith.wf_i64 (by omega))
      have k99 := grown_gr k9 hg9
      obtain ⟨w2, hrun2, hown2, hg2⟩ := hback w9 _ _ k99 ho9 (by rw [List.length_append, List.length_singleton]; omega) (n9.imp id (fun h => ⟨_, h, Nat.le_refl _⟩))
      have W2 : WM w2 mb (s.bs.take (k + 1)) := by
        rw [htk]
        refine wm_put (bs := s.bs.take k) (s := y) (w := w8) (by rw [hlk]; exact groups_kt (KT2.of_gr (t := 91) (u := 35) hg8) hD.out (by decide) (by decide)) hI.out hat hoi (by rw [hlk]; exact ho9) (by rw [hlk]; exact hown2)
      have b2 : Blk w2 g 91 _ := (blk_more hbA hg9).grown hg2 (fun e => by have := Option.some.inj e; have := hg.out; omega)
      have B1 : Gr w w8 := GW8.trans hg8
      have B2 : Below w.heap.size w8 w9 := below_of_grown (v := v33) k99 B1.size (fun m hm => by have := (World.ownsRow.lt oA m hm).1; have := hmb.out; omega)
      have B3 : Below w.heap.size w9 w2 := (Below.refl _ _).grown hg2 (Nat.le_trans B1.size B2.size) (fun m hm => by have := hmb.out; cases hm; omega)
      have G2 := Lib.hid (show Gr w w2 from Below.trans (Below.trans B1 B2) B3)
      replace W2 := Lib.hid W2
      replace b2 := Lib.hid b2
      clear hback hat hoi oA o9 k9 n9 kt hbA xA hown2 hg2 ho9 k99 B1 B2 B3 hrun hr8 hu hs8 hkn hwm hbr e0 e1 e2
      go_wp2
      exact ⟨⟨k + 1, by omega, by go_num, W2, b2, G2⟩, by simp [intOf]; omega⟩
    · obtain rfl : k = s.bs.length := by omega
      rw [List.take_length] at hwm
      go_wp2
      go_ret
      exact ⟨g, mb, rfl, by have := hg.out; have := hmb.out; omega, ⟨_, hbr.out, OT.nil_ _ _ _⟩, hwm.out, gr.out⟩
end Se
end Go.Proofs.Ytgnogoghfendpaa
namespace Go.Proofs.Ytgnogoghfendpaa
open Go Go.RowKit Go.Shelf W Bl
attribute [local go_sem] Oper.semAt_some
namespace Sg
def encB (A : Option Addr) (c L h : Nat) (k : Nat) : Array Value := #[.slice (A.map (·.add (k * h))) (min h (L - k * h)) (c - k * h)]
def leftB (Bb : Nat) (w : World) : Nat := match w.cell? ⟨Bb, 0, none⟩ with | some (.slice _ n _) => n | _ => 0
theorem leftB_eq {Bb : Nat} {w : World} {t : TypeId} {A : Option Addr} {n c : Nat} (h : Blk w Bb t #[.slice A n c]) : leftB Bb w = n := by
  unfold leftB
  rw [h.cell 0]
  rfl
set_option maxRecDepth 100000 in
set_option maxHeartbeats 2000000 in
theorem blocks1_in (m : Nat) (hm : 1 ≤ m) (l Bb Bs : Nat) (ad : Addr) (c : Nat) (L z : Nat) (hs : L ≤ 1000000) (hc : L ≤ c) (hcm : c ≤ maxLen) (h0 : 0 < L) (h4 : 4 ≤ z) (h64 : z ≤ 64)
    (Kp : World → World → Prop)
    (kb : ∀ {A B : World} {v : Value}, Kp A B → Blk A Bb 22 #[v] → Blk B Bb 22 #[v]) (kd : ∀ {A B : World} {v : Value}, Kp A B → Blk A Bs 3 #[v] → Blk B Bs 3 #[v])
    (J Jx : List Nat → World → Prop) (W : World) (hJ : Bears Bb J)
    (hY : ∀ pre x W1, J pre W1 → pre.length < count L z → YieldAt Fence.wide (m - 1) Try.prog l (encB (some ad) c L z x) W1 fun e W' =>
      (e = .returned (.bool true) ∧ J (pre ++ [x]) W' ∧ Kp W1 W') ∨ (e = .returned (.bool false) ∧ Jx (pre ++ [x]) W'))
    (b0 : Blk W Bb 22 #[.slice (some ad) L c]) (s0 : Blk W Bs 3 #[.int .i64 (z : Int)]) (hne : Bs ≠ Bb) (hJ0 : J [] W) :
    CallsIn Fence.wide m Try.prog 51 #[.func (.yield l) #[] #[], .pointer (some ⟨Bb, 0, none⟩), .pointer (some ⟨Bs, 0, none⟩)] W fun e W' => (∃ v, e = .returned v) ∧
      ((∃ ys, ys = List.range (count L z) ∧ J ys W') ∨ (∃ pre, (∃ k, k ≤ count L z ∧ pre = List.range k) ∧ Jx pre W')) := by
  have hYh := Lib.hid hY
  have hJh := Lib.hid hJ
  have hct := Lib.hid (fun k => count_lt (n := L) (h := z) (k := k) (by omega))
  clear hY hJ
  refine callsIn_of_wp Try.func51 rfl trivial ?_ rfl
  simp only [Try.ntmps51, List.size_toArray, List.length_cons, List.length_nil, Nat.reduceAdd, Nat.reduceSub, Array.replicate_succ, Array.replicate_zero, List.push_toArray, List.append_toArray, List.nil_append, List.cons_append]
  gi_wp2
  gi_loopw [4] (fun i wr => ∃ k Ak ck, k ≤ count L z ∧ Blk wr Bb 22 #[.slice Ak (L - k * z) ck] ∧ (k * z < L → Ak = some (ad.add (k * z)) ∧ ck = c - k * z) ∧ Blk wr Bs 3 #[.int .i64 (z : Int)] ∧ J (List.range k) wr)
    (fun i wr => leftB Bb wr)
  case atStart => exact ⟨0, some ad, c, by omega, by simpa using b0, fun _ => ⟨by simp [Addr.add], by simp⟩, s0, hJ0⟩
  case round =>
    clear b0 s0 hJ0
    obtain ⟨k, Ak, ck, hk, b1, hAk, s1, hJs⟩ := hrel
    have hlw := leftB_eq b1
    have c1 := b1.cell 0
    have d1 := s1.cell 0
    by_cases hlt : k * z < L
    · obtain ⟨rfl, rfl⟩ := hAk hlt
      have e1 : (0 : Int) < ((L - k * z : Nat) : Int) := by omega
      have hk1 : k < count L z := (hct.out k).2 hlt
      have hbk := Lib.hid (fun w' (h : Kp wr w') => kb h b1)
      have hsk := Lib.hid (fun w' (h : Kp wr w') => kd h s1)
      obtain ⟨fn, tmps, assign, body, hy, hR⟩ := hYh.out _ k wr hJs (by rw [List.length_range]; exact hk1)
      have hR := Lib.hid hR
      dsimp only [encB, Option.map] at hy
      clear hAk b1 s1
      by_cases hz : z ≤ L - k * z
      · have e2 : (z : Int) ≤ ((L - k * z : Nat) : Int) := by omega
        have e3 : (z : Int) ≤ ((c - k * z : Nat) : Int) := by omega
        have eN : L - (k + 1) * z = L - k * z - z := by rw [Nat.succ_mul]; omega
        have eC : c - (k + 1) * z = c - k * z - z := by rw [Nat.succ_mul]; omega
        rw [Nat.min_eq_left hz] at hy
        gi_wp2
        refine hR.out.mono ?_
        rintro e W3 (⟨rfl, hJ3, hk3⟩ | ⟨rfl, hJx3⟩)
        · have b3 := hbk.out W3 hk3
          have s3 := hsk.out W3 hk3
          have c3 := b3.cell 0
          have d3 := s3.cell 0
          have f3 := b3.frozen 0
          by_cases hcz : c - k * z = z
          · have hcz' : c - k * z - z = 0 := by omega
            gi_wp2
            refine ⟨⟨k + 1, _, _, by omega, by rw [eN]; exact b3.set_ 0 _, fun h => absurd h (by rw [Nat.succ_mul]; omega), s3.far hne _, by rw [List.range_succ]; exact hJh.out _ _ _ hJ3 ((Kb.refl _ _).set 0 _)⟩, ?_⟩
            rw [leftB_eq (b3.set_ 0 _)]
            omega
          · have hcz1 : ¬ c - k * z - z = 0 := by omega
            have hcz2 : ¬ ((c - k * z : Nat) : Int) ≤ (z : Int) := by omega
            gi_wp2
            refine ⟨⟨k + 1, _, _, by omega, by rw [eN]; exact b3.set_ 0 _, fun h => ⟨by rw [Nat.succ_mul, add_of_add], eC.symm⟩, s3.far hne _, by rw [List.range_succ]; exact hJh.out _ _ _ hJ3 ((Kb.refl _ _).set 0 _)⟩, ?_⟩
            rw [leftB_eq (b3.set_ 0 _)]
            omega
        · gi_wp2
          refine bodyPost_ret (results_none rfl _ _ _) rfl ?_
          exact ⟨⟨_, rfl⟩, .inr ⟨_, ⟨k + 1, by omega, List.range_succ.symm⟩, hJx3⟩⟩
      · have e2 : ¬ (z : Int) ≤ ((L - k * z : Nat) : Int) := by omega
        have e3 : ((L - k * z : Nat) : Int) ≤ ((c - k * z : Nat) : Int) := by omega
        have eN : L - (k + 1) * z = 0 := by rw [Nat.succ_mul]; omega
        rw [Nat.min_eq_right (by omega)] at hy
        gi_wp2
        refine hR.out.mono ?_
        rintro e W3 (⟨rfl, hJ3, hk3⟩ | ⟨rfl, hJx3⟩)
        · have b3 := hbk.out W3 hk3
          have s3 := hsk.out W3 hk3
          have c3 := b3.cell 0
          have d3 := s3.cell 0
          have f3 := b3.frozen 0
          by_cases hcz : c - k * z = L - k * z
          · have hcz' : c - k * z - (L - k * z) = 0 := by omega
            gi_wp2
            refine ⟨⟨k + 1, _, _, by omega, by rw [eN]; exact b3.set_ 0 _, fun h => absurd h (by rw [Nat.succ_mul]; omega), s3.far hne _, by rw [List.range_succ]; exact hJh.out _ _ _ hJ3 ((Kb.refl _ _).set 0 _)⟩, ?_⟩
            rw [leftB_eq (b3.set_ 0 _)]
            omega
          · have hcz1 : ¬ c - k * z - (L - k * z) = 0 := by omega
            have hcz2 : ¬ ((c - k * z : Nat) : Int) ≤ ((L - k * z : Nat) : Int) := by omega
            gi_wp2
            refine ⟨⟨k + 1, _, _, by omega, by rw [eN]; exact b3.set_ 0 _, fun h => absurd h (by rw [Nat.succ_mul]; omega), s3.far hne _, by rw [List.range_succ]; exact hJh.out _ _ _ hJ3 ((Kb.refl _ _).set 0 _)⟩, ?_⟩
            rw [leftB_eq (b3.set_ 0 _)]
            omega
        · gi_wp2
          refine bodyPost_ret (results_none rfl _ _ _) rfl ?_
          exact ⟨⟨_, rfl⟩, .inr ⟨_, ⟨k + 1, by omega, List.range_succ.symm⟩, hJx3⟩⟩
    · have hkN : k = count L z := by
        rcases Nat.lt_or_ge k (count L z) with h | h
        · exact absurd ((hct.out k).1 h) hlt
        · omega
      have eL : L - k * z = 0 := by omega
      have e1 : ¬ (0 : Int) < ((L - k * z : Nat) : Int) := by omega
      rw [eL] at c1
      clear hAk b1 s1
      subst hkN
      gi_wp2
      go_end0
      exact ⟨⟨_, rfl⟩, .inl hJs⟩
set_option maxRecDepth 100000 in
set_option maxHeartbeats 1000000 in
theorem blocks1_nil (m : Nat) (l Bb Bs : Nat) (A : Option Addr) (c : Nat) (P : World → Prop) (W : World) (cb : W.cell? ⟨Bb, 0, none⟩ = some (.slice A 0 c)) (h0 : P W) :
    CallsIn Fence.wide m Try.prog 51 #[.func (.yield l) #[] #[], .pointer (some ⟨Bb, 0, none⟩), .pointer (some ⟨Bs, 0, none⟩)] W fun e W' => (∃ v, e = .returned v) ∧ P W' := by
  refine callsIn_of_wp Try.func51 rfl trivial ?_ rfl
  simp only [Try.ntmps51, List.size_toArray, List.length_cons, List.length_nil, Nat.reduceAdd, Nat.reduceSub, Array.replicate_succ, Array.replicate_zero, List.push_toArray, List.append_toArray, List.nil_append, List.cons_append]
  gi_wp2
  gi_loopw [4] (fun i wr => wr = W) (fun i wr => 0)
  case atStart => rfl
  case round =>
    obtain rfl := hrel
    gi_wp2
    go_end0
    exact ⟨⟨_, rfl⟩, h0⟩
theorem count_zero {h : Nat} : count 0 h = 0 := by simp [count]
/-- The iterator's contract. -/
theorem blocks_seq (m : Nat) (hm : 1 ≤ m) (Bb Bs : Nat) (A : Option Addr) (c : Nat) (l : List UInt8) (B z : Nat) (hs : l.length ≤ 1000000) (hc : l.length ≤ c) (hcm : c ≤ maxLen) (h4 : 4 ≤ z) (h64 : z ≤ 64)
    (Kp : World → World → Prop)
    (kb : ∀ {A B : World} {v : Value}, Kp A B → Blk A Bb 22 #[v] → Blk B Bb 22 #[v]) (kd : ∀ {A B : World} {v : Value}, Kp A B → Blk A Bs 3 #[v] → Blk B Bs 3 #[v])
    (W : World) (b0 : Blk W Bb 22 #[.slice A l.length c]) (s0 : Blk W Bs 3 #[.int .i64 (z : Int)]) (hr : RB W B A l) (hne : Bs ≠ Bb) :
    SeqB Fence.wide m Try.prog 51 #[.pointer (some ⟨Bb, 0, none⟩), .pointer (some ⟨Bs, 0, none⟩)] (encB A c l.length z) Bb Kp (fun ys => ys = List.range (count l.length z))
      (fun pre => ∃ k, k ≤ count l.length z ∧ pre = List.range k) (count l.length z) W := fun lp J Jx hJ _ hY h0 => by
  rcases Nat.eq_zero_or_pos l.length with hz | hz
  · rw [hz] at b0 ⊢
    refine (blocks1_nil m lp Bb Bs A c (J []) W (b0.cell 0) h0).mono ?_
    rintro e W' ⟨he, hj⟩
    exact ⟨he, .inl ⟨_, rfl, by rw [count_zero]; exact hj⟩⟩
  · obtain ⟨ad, rfl, _, _⟩ := hr.at_ hz
    exact blocks1_in m hm lp Bb Bs ad c l.length z hs hc hcm hz h4 h64 Kp kb kd J Jx W hJ hY b0 s0 hne h0
set_option maxRecDepth 100000 in
set_option maxHeartbeats 1000000 in
/-- block.blocks: two boxes; the function value captures them. -/
theorem blocks_any (A : Option Addr) (len c : Nat) (z : Int) (n : Nat) (w : World) (hn : w.heap.size = n) :
    Calls Try.prog 40 #[.slice A len c, .int .i64 z] w fun e w' =>
      e = .returned (.func (.func 51) #[] #[.pointer (some ⟨n, 0, none⟩), .pointer (some ⟨n + 1, 0, none⟩)]) ∧ Blk w' n 22 #[.slice A len c] ∧ Blk w' (n + 1) 3 #[.int .i64 z] ∧ Gr w w' ∧ w'.heap.size = n + 2 := by
  subst hn
  have hmf : ∀ (fn : Fn) (first cap : Array Value) (w : World), (Instr.makeFunc fn first cap).run Try.prog w = .ok (.func fn first cap) w := fun _ _ _ _ => rfl
  have h1 := Lib.hid ((Blk.new w 22 #[.slice A len c]).alloc (.cells #[.int .i64 z] 3))
  have h2 := Blk.new (w.alloc (.cells #[.slice A len c] 22)) 3 #[.int .i64 z]
  rw [World.size_alloc] at h2
  replace h2 := Lib.hid h2
  go_enter Try.func40, Try.ntmps40
  go_wp2
  go_ret
  exact ⟨rfl, h1.out, h2.out, ((Gr.refl w).alloc _).alloc _, by simp⟩
end Sg
end Go.Proofs.Ytgnogoghfendpaa
namespace Go.Proofs.Ytgnogoghfendpaa
open Go Go.RowKit Go.Shelf W Bl
attribute [local go_sem] Oper.semAt_some
namespace Sg
abbrev sigZ : Array Value := #[.int .i64 0, .slice none 0 0, .int .i64 0, .int .u32 0, .int .u64 0, .int .u64 0]
/-- The signature in block g. -/
def SgAt (g base : Nat) (z : Int) (bs : List Sign) (t : Int) (x : Sign) (W : World) : Prop :=
  ∃ A c, Blk W g 69 (sigC z (.slice A bs.length c) t x) ∧ OS 67 W base (.slice A bs.length c) bs
def SgI (rc g : Nat) (w : World) (base : Nat) (l : List UInt8) (h : Nat) (pre : List Nat) (W : World) : Prop :=
  (∀ y ∈ pre, (at_ l h y).length = h) ∧ Blk W rc 69 sigZ ∧ SgAt g base (h : Int) (pre.map fun k => sign (at_ l h k)) 0 zero W ∧ Below w.heap.size w W ∧ base ≤ W.heap.size
def SgX (rc g : Nat) (w : World) (base : Nat) (l : List UInt8) (h : Nat) (c : Code) (pre : List Nat) (W : World) : Prop :=
  c = .exit 0 ∧ ∃ ini last, pre = ini ++ [last] ∧ (∀ y ∈ ini, (at_ l h y).length = h) ∧ (at_ l h last).length < h ∧ Blk W rc 69 sigZ ∧
    SgAt g base (h : Int) (ini.map fun k => sign (at_ l h k)) ((at_ l h last).length : Int) (sign (at_ l h last)) W ∧ Below w.heap.size w W ∧ base ≤ W.heap.size
theorem sgAt_own {g base : Nat} {z : Int} {bs : List Sign} {t : Int} {x : Sign} {X Y : World} {row : Option Nat} (h : SgAt g base z bs t x X) (hg : X.grownBy Y row) (hr : ∀ r, row = some r → ∃ o : Obj, X.heap[r]? = some o ∧ o.isCells = false) : SgAt g base z bs t x Y := by
  obtain ⟨A, c, h1, h2⟩ := h
  refine ⟨A, c, h1.grown hg (fun e => ?_), or_own h2 hg hr⟩
  obtain ⟨o, ho, hc⟩ := hr g e.symm
  have h1' : X.heap[g]? = some (.cells _ _ (0, 0)) := h1
  rw [h1'] at ho
  cases ho
  cases hc
theorem sgAt_kb {g base b : Nat} {z : Int} {bs : List Sign} {t : Int} {x : Sign} {X Y : World} (h : SgAt g base z bs t x X) (hk : Kb b X Y) (h1 : b ≠ g) (h2 : b < base) : SgAt g base z bs t x Y := by
  obtain ⟨A, c, e1, e2⟩ := h
  refine ⟨A, c, hk.blk e1 (fun e => h1 e.symm), World.ownsRow.kept e2 hk ?_⟩
  rcases e2.2 with ⟨hv, _⟩ | ⟨g', cap, cur, hv, hg, hh, _⟩
  · exact .inl (by rw [hv]; rfl)
  · refine .inr fun e => ?_
    rw [hv] at e
    have : g' = b := Option.some.inj e
    omega
theorem at_len_min (l : List UInt8) (h k : Nat) : (at_ l h k).length = min h (l.length - k * h) := by simp [at_]
theorem rb_at {W : World} {B : Nat} {A : Option Addr} {l : List UInt8} {c h k : Nat} (hr : RB W B A l) (hc : l.length ≤ c) : RB W B (A.map (·.add (k * h))) (at_ l h k) := by
  unfold at_
  rcases Nat.lt_or_ge (k * h) l.length with hk | hk
  · have := hr.drop (k := k * h) (cap := c) (by omega) hc
    rw [if_neg (by omega)] at this
    by_cases hm : h ≤ l.length - k * h
    · exact this.take (by rw [List.length_drop]; omega)
    · rw [List.take_of_length_le (by rw [List.length_drop]; omega)]
      exact this
  · rw [List.drop_eq_nil_of_le hk, List.take_nil]
    exact RB.nil_
theorem full_of {l : List UInt8} {h : Nat} (hh : 0 < h) (hall : ∀ y ∈ List.range (count l.length h), (at_ l h y).length = h) : count l.length h = l.length / h ∧ l.length % h = 0 := by
  by_cases hm : 0 < l.length % h
  · have h1 : l.length / h < count l.length h := by unfold count; rw [if_pos hm]; omega
    have h2 := hall _ (List.mem_range.2 h1)
    rw [at_len_min] at h2
    have h3 := Nat.div_add_mod l.length h
    rw [Nat.mul_comm] at h3
    have h4 := Nat.mod_lt l.length hh
    omega
  · refine ⟨by unfold count; rw [if_neg hm]; rfl, by omega⟩
theorem last_of {l : List UInt8} {h j : Nat} (hh : 0 < h) (hj : j ≤ count l.length h) {ini : List Nat} {last : Nat} (he : ini ++ [last] = List.range j) (hall : ∀ y ∈ ini, (at_ l h y).length = h) (hlt : (at_ l h last).length < h) :
    ini = List.range (l.length / h) ∧ last = l.length / h ∧ 0 < l.length % h := by
  cases j with
  | zero => simp at he
  | succ j =>
    rw [List.range_succ] at he
    obtain ⟨rfl, h2⟩ := List.append_inj' he rfl
    obtain rfl : last = j := by simpa using h2
    have h3 := (count_lt (n := l.length) hh).1 (show last < count l.length h by omega)
    have h4 := Nat.div_add_mod l.length h
    rw [Nat.mul_comm] at h4
    have h5 := Nat.mod_lt l.length hh
    rw [at_len_min] at hlt
    have e : last = l.length / h := by
      rcases Nat.lt_trichotomy last (l.length / h) with h6 | h6 | h6
      · have h7 : (last + 1) * h ≤ l.length / h * h := Nat.mul_le_mul_right _ h6
        rw [Nat.succ_mul] at h7
        omega
      · exact h6
      · have h7 : (l.length / h + 1) * h ≤ last * h := Nat.mul_le_mul_right _ h6
        rw [Nat.succ_mul] at h7
        omega
    refine ⟨by rw [e], e, ?_⟩
    rw [← e] at h4
    omega
theorem at_last {l : List UInt8} {h : Nat} (hm : 0 < l.length % h) (hh : 0 < h) : (at_ l h (l.length / h)).length = l.length % h := by
  rw [at_len_min]
  have h4 := Nat.div_add_mod l.length h
  rw [Nat.mul_comm] at h4
  have h5 := Nat.mod_lt l.length hh
  omega
theorem sgI_own (rc g : Nat) (w : World) (base : Nat) (l : List UInt8) (h B : Nat) (hB : w.heap.size ≤ B) : OwnFrom B (SgI rc g w base l h) := fun s X Y row hs hg hr =>
  ⟨hs.1, blk_own (fun (_ : List Nat) => sigZ) B s X Y row hs.2.1 hg hr, sgAt_own hs.2.2.1 hg (fun r e => (hr r e).2), ownFrom_below (β := List Nat) (Nat.le_refl _) hB s X Y row hs.2.2.2.1 hg hr, Nat.le_trans hs.2.2.2.2 hg.size⟩
theorem sgX_own (rc g : Nat) (w : World) (base : Nat) (l : List UInt8) (h B : Nat) (hB : w.heap.size ≤ B) (c : Code) : OwnFrom B (SgX rc g w base l h c) := fun s X Y row hs hg hr => by
  obtain ⟨hc, ini, last, e1, e2, e3, e4, e5, e6, e7⟩ := hs
  exact ⟨hc, ini, last, e1, e2, e3, blk_own (fun (_ : List Nat) => sigZ) B s X Y row e4 hg hr, sgAt_own e5 hg (fun r e => (hr r e).2), ownFrom_below (β := List Nat) (Nat.le_refl _) hB s X Y row e6 hg hr, Nat.le_trans e7 hg.size⟩
theorem below_kb {w X Y : World} {b : Nat} (h : Below w.heap.size w X) (k : Kb b X Y) (hb : w.heap.size ≤ b) : Below w.heap.size w Y :=
  ⟨k.os.trans h.os, k.tape.trans h.tape, k.output.trans h.output, Nat.le_trans h.size k.size, fun i hi => (World.grownBy.block k i (Nat.lt_of_lt_of_le hi h.size) (fun e => by cases e; omega)).trans (h.block i hi)⟩
theorem sgI_bears (rc g : Nat) (w : World) (base : Nat) (l : List UInt8) (h b : Nat) (h1 : rc ≠ b) (h2 : g ≠ b) (h3 : b < base) (h4 : w.heap.size ≤ b) : Bears b (SgI rc g w base l h) := fun s X Y hs k =>
  ⟨hs.1, k.blk hs.2.1 h1, sgAt_kb hs.2.2.1 k (Ne.symm h2) h3, below_kb hs.2.2.2.1 k h4, Nat.le_trans hs.2.2.2.2 k.size⟩
theorem sgX_bears (rc g : Nat) (w : World) (base : Nat) (l : List UInt8) (h b : Nat) (h1 : rc ≠ b) (h2 : g ≠ b) (h3 : b < base) (h4 : w.heap.size ≤ b) (c : Code) : Bears b (SgX rc g w base l h c) := fun s X Y hs k => by
  obtain ⟨hc, ini, last, e1, e2, e3, e4, e5, e6, e7⟩ := hs
  exact ⟨hc, ini, last, e1, e2, e3, k.blk e4 h1, sgAt_kb e5 k (Ne.symm h2) h3, below_kb e6 k h4, Nat.le_trans e7 k.size⟩
/-- Blocks b and b + 1 lie as they lay. -/
def Two (b : Nat) (X Y : World) : Prop := Y.heap[b]? = X.heap[b]? ∧ Y.heap[b + 1]? = X.heap[b + 1]?
theorem Two.trans {b : Nat} {X Y Z : World} (h : Two b X Y) (k : Two b Y Z) : Two b X Z := ⟨k.1.trans h.1, k.2.trans h.2⟩
theorem Two.putObj {b : Nat} (X : World) (l : Nat) (o : Obj) (h : b + 2 ≤ l) : Two b X (X.putObj l o) := ⟨World.putObj_heap_other (by omega), World.putObj_heap_other (by omega)⟩
set_option maxRecDepth 100000 in
set_option maxHeartbeats 4000000 in
theorem of_any (A : Option Addr) (c : Nat) (l : List UInt8) (size : Int) (w : World) (hs : l.length ≤ 1000000) (hc : l.length ≤ c) (hcm : c ≤ maxLen) (hr : RB w w.heap.size A l) :
    Calls Try.prog 32 #[.slice A l.length c, .int .i64 size] w fun e w' => ∃ A' c', e = .returned (sigV (sigOf l size) A' c') ∧ OS 67 w' w.heap.size (.slice A' (sigOf l size).bs.length c') (sigOf l size).bs ∧ Gr w w' := by
  refine (callsIn_wide (n := 5)).1 ?_
  have hrh := Lib.hid hr
  have hho := Lib.hid (fun w => hold_any size w)
  obtain ⟨s, hsig⟩ : ∃ s, sigOf l size = s := ⟨_, rfl⟩
  rw [hsig]
  unfold sigOf at hsig
  have hh := hold_pos size
  generalize hold size = h at *
  replace hsig := Lib.hid hsig
  clear hr
  refine callsIn_of_wp_marks Try.func32 rfl trivial ?_ rfl
  simp only [Try.ntmps32, List.size_toArray, List.length_cons, List.length_nil, Nat.reduceAdd, Nat.reduceSub, Array.replicate_succ, Array.replicate_zero, List.push_toArray, List.append_toArray, List.nil_append, List.cons_append]
  refine wpIn_wide.2 ?_
  have b0 := Lib.hid ((Blk.new w 69 sigZ).alloc (.cells sigZ 69))
  have b1 := Blk.new (w.alloc (.cells sigZ 69)) 69 sigZ
  rw [World.size_alloc] at b1
  replace b1 := Lib.hid b1
  have g0 := Lib.hid (((Gr.refl w).alloc (.cells sigZ 69)).alloc (.cells sigZ 69))
  go_wp2_with fail
  go_at_call 33
  refine (hho.out _).mono ?_
  rintro e w1 ⟨rfl, rfl⟩
  clear hho
  go_wp2_with (first
    | ((with_reducible refine wpList_isStore 69 (.tmp 5) (.tmp 9) rfl ?_); refine wpList_store_blk rfl 69 (.tmp 5) (.tmp 9) rfl (w.heap.size + 1) (sigC (h : Int) (.slice none 0 0) 0 zero) rfl rfl 69 sigZ b1.out (sigInfo _ _ _ _ _ _) rfl (by simp [Value.oneCell']) ?_; intro w2 n2 k2 z2; have x2 := n2.cell 0; have m0 := Lib.hid (k2.blk b0.out (by omega)); have n2' := Lib.hid n2; have G2 := Lib.hid (keep_at g0.out k2 (by omega) (by rw [World.size_alloc, World.size_alloc]; omega)); have z2' : w2.heap.size = w.heap.size + 2 := (by rw [z2, World.size_alloc, World.size_alloc]); clear n2 k2 z2 b0 b1 g0))
  go_at_call 40
  refine (blocks_any A l.length c (h : Int) (w.heap.size + 2) _ z2').mono ?_
  rintro e w3 ⟨rfl, bb, bs, g3, z3⟩
  have hsz := g3.size
  have i0 := blk_more m0.out g3
  have i1 := blk_more n2'.out g3
  have gg := Gr.trans G2.out g3
  have hre := hrh.out.below gg
  clear m0 n2' G2 g3 x2 z2'
  replace i0 := Lib.hid i0
  replace i1 := Lib.hid i1
  replace bb := Lib.hid bb
  replace bs := Lib.hid bs
  replace gg := Lib.hid gg
  replace hre := Lib.hid hre
  go_wp2
  refine (wpIn_wide (n := 5)).1 ?_
  refine wpIn_rangeBox (b := w.heap.size + 2) (by omega) rfl (by omega) (gf := 51) (lb := #[.pointer (some ⟨w.heap.size + 2, 0, none⟩), .pointer (some ⟨w.heap.size + 2 + 1, 0, none⟩)]) rfl trivial (enters_of Try.func51 (by kernel_rfl) rfl)
    (Kp := Two (w.heap.size + 2)) (fun W hW => blocks_seq 4 (by omega) (w.heap.size + 2) (w.heap.size + 2 + 1) A c l w.heap.size h hs hc hcm hh.1 hh.2 (Two (w.heap.size + 2)) (fun k hb => k.1.trans hb) (fun k hb => k.2.trans hb) W (bb.out.below hW (by omega)) (bs.out.below hW (by omega)) (hre.out.below (hW.mono (by omega))) (by omega))
    Two.trans (fun W l o hl => Two.putObj W l o (by omega)) (fun _ => rfl)
    (SgI w.heap.size (w.heap.size + 1) w w3.heap.size l h) (SgX w.heap.size (w.heap.size + 1) w w3.heap.size l h)
    (sgI_own _ _ _ _ _ _ _ (by omega)) (sgX_own _ _ _ _ _ _ _ (by omega))
    (sgI_bears _ _ _ _ _ _ _ (by omega) (by omega) (by omega) (by omega)) (sgX_bears _ _ _ _ _ _ _ (by omega) (by omega) (by omega) (by omega))
    ⟨by simp, i0.out, ⟨none, 0, i1.out, OS.nil_ _ _ _⟩, gg.out, Nat.le_refl _⟩ ?a1 ?assign ?body ?done ?stop
  case assign =>
    intro lp x W K hK
    dsimp only [encB]
    gi_wp2
    exact hK
  case body =>
    rintro lp pre x W ⟨hp, c0, ⟨A1, c1', c1, ho⟩, hB, hWs⟩ hlt
    have hcl := count_le l.length h (by omega)
    clear bb bs i0 i1 gg
    have hlm := at_len_min l h x
    have hle : (at_ l h x).length ≤ h := by omega
    have hrx : RB W W.heap.size (A.map (·.add (x * h))) (at_ l h x) := (rb_at (k := x) (h := h) (hrh.out.below hB) hc).more hB.size
    have hcx : (at_ l h x).length ≤ c - x * h := by omega
    rw [← hlm]
    have hsg := Lib.hid (fun W (hr : RB W W.heap.size (A.map (·.add (x * h))) (at_ l h x)) => signOf_any (A.map (·.add (x * h))) (c - x * h) (at_ l h x) W (by omega) hcx hr)
    replace hrx := Lib.hid hrx
    replace hp := Lib.hid hp
    have d0 := c1.cell 0
    have d1 := c1.cell 1
    have hWb : w3.heap.size ≤ W.heap.size := hWs
    replace c0 := Lib.hid c0
    replace c1 := Lib.hid c1
    replace ho := Lib.hid ho
    replace hB := Lib.hid hB
    by_cases hq : (at_ l h x).length < h
    · have hqi : ((at_ l h x).length : Int) < (h : Int) := by omega
      have hqH := Lib.hid hq
      obtain ⟨b, hb⟩ : ∃ b, at_ l h x = b := ⟨_, rfl⟩
      rw [hb] at hsg hrx hqi hqH ⊢
      replace hb := Lib.hid hb
      clear hlm hle hcx hq
      gi_wp2_with fail
      refine ⟨trivial, ?_⟩
      gi_at_call 41
      refine (CallsIn.inRound lp (callsIn_wide.2 (hsg.out W hrx.out))).mono ?_
      rintro e W2 ⟨rfl, g2⟩
      have n1 := blk_more c1.out g2
      have y2 := n1.cell 2
      have y3 := n1.cell 3
      have y4 := n1.cell 4
      have y5 := n1.cell 5
      have f2 := n1.frozen 2
      have f3 := n1.frozen 3
      have f4 := n1.frozen 4
      have f5 := n1.frozen 5
      have m1 := Lib.hid n1
      have G2 := Lib.hid g2
      clear hsg d0 d1 n1 g2
      gi_wp2
      have k5 := (((((Kb.refl (w.heap.size + 1) W2).set 2 (.int .i64 (b.length : Int))).set 3 (.int .u32 (n32 (sign b).1))).set 4 (.int .u64 (n64 (sign b).2.1))).set 5 (.int .u64 (n64 (sign b).2.2)))
      have m5 := (((m1.out.set_ 2 (.int .i64 (b.length : Int))).set_ 3 (.int .u32 (n32 (sign b).1))).set_ 4 (.int .u64 (n64 (sign b).2.1))).set_ 5 (.int .u64 (n64 (sign b).2.2))
      refine ⟨(gr_from G2.out _).trans ((((KeepsOthers.setCell _ _ _).trans (KeepsOthers.setCell _ _ _)).trans ((KeepsOthers.setCell _ _ _).trans (KeepsOthers.setCell _ _ _))).from _), rfl, pre, x, rfl, hp.out, by rw [hb.out]; exact hqH.out, k5.blk (blk_more c0.out G2.out) (by omega), ?_, below_kb (Below.trans hB.out (Below.mono G2.out hB.out.size)) k5 (by omega), Nat.le_trans (Nat.le_trans hWb (Below.size G2.out)) k5.size⟩
      rw [hb.out]
      exact ⟨A1, c1', m5, os_kb (OS.below ho.out G2.out) k5 (by omega)⟩
    · have hqe : (at_ l h x).length = h := by omega
      have hqi : ¬ ((at_ l h x).length : Int) < (h : Int) := by omega
      have hqH := Lib.hid hqe
      obtain ⟨b, hb⟩ : ∃ b, at_ l h x = b := ⟨_, rfl⟩
      rw [hb] at hsg hrx hqi hqH ⊢
      replace hb := Lib.hid hb
      obtain ⟨n, hn⟩ : ∃ n, (pre.map fun k => sign (at_ l h k)).length = n := ⟨_, rfl⟩
      have hpl : n ≤ 1000000 := by rw [← hn, List.length_map]; omega
      rw [hn] at d1 c1 ho
      replace hn := Lib.hid hn
      clear hlm hle hcx hq hqe
      gi_wp2
      refine region_growIn (by kernel_rfl) (by kernel_rfl) (by kernel_rfl) (fun ⟨_, _, h⟩ => h) ?_
      refine GW.p1 (.pointer (some ⟨w.heap.size + 1, 1, none⟩)) rfl trivial (kn0 (t := 5) (c := .pointer (some ⟨w.heap.size + 1, 0, none⟩)) (by kernel_rfl) rfl) (fun ρ w' hρ hg => by simp [execOp, hρ, go_sem]) ?_
      refine GW.p1 ((Value.slice A1 n c1')) rfl trivial (kn (t := 26) (j := 0) (by kernel_rfl)) (fun ρ w' hρ hg => by have h0 := (hg.cell (p := ⟨w.heap.size + 1, 1, none⟩) (show w.heap.size + 1 < W.heap.size by omega)).trans d1; simp [execOp, hρ, go_sem, h0]) ?_
      refine GW.mv rfl trivial (.inl rfl) (kn0 (t := 6) (c := .slice (A.map (·.add (x * h))) b.length (c - x * h)) (by kernel_rfl) rfl) (eqv_lasts _) ?_
      refine GW.call1 (eqv (sV (sign b))) rfl trivial rfl Try.func41 (by kernel_rfl) (by kernel_rfl) (eqv_lasts _) (kn (t := 28) (j := 2) (by kernel_rfl)) (fun v w' hg hv => ?_) ?_
      · obtain rfl : v = _ := hv
        refine (hsg.out w' ((hrx.out.below hg).more hg.size)).mono ?_
        rintro e w2 ⟨rfl, hg2⟩
        exact ⟨_, rfl, rfl, hg2⟩
      refine GW.row1 (E := 67) #[.int .u32 (n32 (sign b).1), .int .u64 (n64 (sign b).2.1), .int .u64 (n64 (sign b).2.2)] rfl rfl trivial rfl (kn (t := 29) (j := 3) (by kernel_rfl)) (fun w => by kernel_rfl) ?_
      refine GW.tailT (m := 5) (by simp) (by kernel_rfl) (by kernel_rfl) (fun w' hg => ?_)
      intro v0 _ v1 h1 v2 _ v3 _ v4 h4
      obtain rfl : v1 = ((Value.slice A1 n c1')) := h1
      simp only [GFin, List.take_succ_cons, List.take_zero, List.drop_succ_cons, List.drop_zero, Act.put, List.setIfInBounds_toArray, List.set_cons_succ, List.set_cons_zero]
      obtain ⟨A4, c4, rfl, hr4⟩ := h4
      have n1 := blk_more c1.out hg
      have y1 : w'.cell? ⟨w.heap.size + 1, 1, none⟩ = some (.slice A1 n c1') := n1.cell 1
      have ho2 := Lib.hid (OS.below ho.out hg)
      have m1 := Lib.hid n1
      have G2 := Lib.hid hg
      have hbase : w3.heap.size ≤ w'.heap.size := Nat.le_trans hWb (Below.size hg)
      replace hr4 := Lib.hid hr4
      clear hsg d0 d1 n1 hg
      go_wp2_with (first
        | ((with_reducible refine wpList_isApp (.tmp 27) (.tmp 30) 64 rfl ?_); refine wpList_append_rowsG rfl (.tmp 27) (.tmp 30) 64 rfl Try.underlying64 signRow rfl (by have := ho2.out; unfold OS at this; rw [hn.out] at this; exact this) w'.heap.size A4 1 c4 (scs [sign b]) rfl hr4.out (scs_one_cell _) (by unfold maxLen; omega) (by omega) hbase (scs ((pre.map fun k => sign (at_ l h k)) ++ [sign b])) (scs_append _ _) (n + 1) rfl ?_; intro A9 c9 w9 o9 b9 k9; have m9 := Lib.hid (m1.out.below b9 (by omega)); have f9 := m9.out.frozen 1; have y9 := m9.out.cell 1; replace o9 := Lib.hid o9; replace b9 := Lib.hid b9; replace k9 := Lib.hid k9; clear ho2 y1))
      have hL : ((pre.map fun k => sign (at_ l h k)) ++ [sign b]).length = n + 1 := by rw [List.length_append, hn.out]; rfl
      have o9' : OS 67 w9 w3.heap.size (.slice A9 ((pre.map fun k => sign (at_ l h k)) ++ [sign b]).length c9) ((pre.map fun k => sign (at_ l h k)) ++ [sign b]) := by unfold OS; rw [hL]; exact o9.out
      have k5 := (Kb.refl (w.heap.size + 1) w9).set 1 (.slice A9 (n + 1) c9)
      have hB9 : Below w.heap.size w w9 := Below.trans (Below.trans hB.out (Below.mono G2.out hB.out.size)) (Below.mono b9.out (by omega))
      have hz9 := (Below.size b9.out)
      have m10 := m9.out.set_ 1 (.slice A9 (n + 1) c9)
      have hm : (pre ++ [x]).map (fun k => sign (at_ l h k)) = (pre.map fun k => sign (at_ l h k)) ++ [sign b] := by rw [List.map_append, ← hb.out]; rfl
      have heq : ∀ i, i < w3.heap.size → i ≠ w.heap.size + 1 → (w9.setCell ⟨w.heap.size + 1, 1, none⟩ (.slice A9 (n + 1) c9)).heap[i]? = W.heap[i]? := fun i h1 h2 =>
        ((Below.heap_setCell _ _ _ _ h2).trans (Below.block b9.out i h1)).trans (Below.block G2.out i (by omega))
      rw [← z3]
      refine ⟨(gr_from G2.out _).trans ((k9.out.trans (KeepsOthers.setCell _ _ _)).from _), ⟨heq _ (by omega) (by omega), heq _ (by omega) (by omega)⟩, ?_, (heq _ (by omega) (by omega)).trans c0.out, ⟨A9, c9, ?_, ?_⟩, below_kb hB9 k5 (by omega), by rw [World.size_setCell]; omega⟩
      · intro y hy
        rcases List.mem_append.1 hy with hy | hy
        · exact hp.out y hy
        · obtain rfl : y = x := by simpa using hy
          rw [hb.out]
          exact hqH.out
      · rw [hm, hL]
        exact m10
      · rw [hm]
        exact os_kb o9' k5 (by omega)
  case done =>
    rintro D ys W hD rfl ⟨hp, c0, ⟨A1, c1', c1, ho⟩, hB, hWs⟩ hK
    obtain ⟨hcn, hmod⟩ := full_of (by omega) hp
    rw [hcn] at c1 ho
    have e1 : ((List.range (l.length / h)).map fun k => sign (at_ l h k)) = full l h := rfl
    have e2 : lastOf l h = zero := by unfold lastOf; rw [if_neg (by omega)]
    rw [e1] at c1 ho
    rw [e2, hmod] at hsig
    obtain ⟨bl, hbl⟩ : ∃ bl, full l h = bl := ⟨_, rfl⟩
    rw [hbl] at c1 ho hsig
    obtain rfl : _ = s := hsig.out
    clear hbl e1 e2 hcn hsig
    have hKd : Hid (W.heap[D]? = some (.deferred (some []))) := Lib.hid hK
    have hDW : D < W.heap.size := (Array.getElem?_eq_some_iff.1 hK).1
    have hDr : D ≠ w.heap.size := by omega
    replace c0 := Lib.hid c0
    replace c1 := Lib.hid c1
    replace ho := Lib.hid ho
    replace hB := Lib.hid hB
    clear bb bs i0 i1 gg hre hrh hp hK
    rename_i hk
    refine hk _ _ ?_
    clear hk
    go_wp2_with (first
      | ((with_reducible refine wpList_isLoad 69 (.tmp 5) rfl ?_); refine wpList_load_row rfl 69 (.tmp 5) rfl (w.heap.size + 1) rfl 69 _ (0, 0) _ c1.out Try.underlying69 rfl (sigInfo _ _ _ _ _ _) ?_)
      | ((with_reducible refine wpList_isStore 69 (.tmp 4) (.tmp 33) rfl ?_); refine wpList_store_blk rfl 69 (.tmp 4) (.tmp 33) rfl w.heap.size _ rfl rfl 69 sigZ c0.out (sigInfo _ _ _ _ _ _) rfl (by simp [Value.oneCell']) ?_; intro w9 n9 k9 z9; have hKd9 := Lib.hid (((World.grownBy.block k9 D hDW (fun e => hDr (Option.some.inj e))).trans hKd.out)); replace n9 := Lib.hid n9; replace k9 := Lib.hid k9; replace z9 := Lib.hid z9))
    refine ⟨by simp, .inl ⟨_, _, rfl, run_takeDeferred hKd9.out, ?_⟩⟩
    have k0' : Blk (w9.putObj D (.deferred none)) w.heap.size 69 _ := n9.out.grown (grownBy_putObj' _ D (.deferred none)) (fun e => hDr (Option.some.inj e).symm)
    refine ⟨_, results_cell_row Try.results32 _ _ w.heap.size 69 _ (0, 0) _ rfl k0' Try.underlying69 rfl (sigInfo _ _ _ _ _ _), A1, c1', rfl, OR.base_le (or_own (os_kb ho.out k9.out (by omega)) (grownBy_putObj' _ D (.deferred none)) (fun r e => by cases e; exact ⟨_, hKd9.out, rfl⟩)) (by omega), (below_kb hB.out k9.out (Nat.le_refl _)).trans (belowK_b (w := w) (Nat.le_refl _) _ D _ _ (by omega) hKd9.out rfl rfl)⟩
  case stop =>
    rintro D cc pre W hD ⟨j, hj, hpre⟩ ⟨rfl, ini, last, e1, e2, e3, c0, ⟨A1, c1', c1, ho⟩, hB, hWs⟩ hK
    obtain ⟨hini, hlast, hmod⟩ := last_of (by omega) hj (e1.symm.trans hpre) e2 e3
    subst hini hlast
    clear hj hpre e1 e2 e3
    have e1 : ((List.range (l.length / h)).map fun k => sign (at_ l h k)) = full l h := rfl
    have e2 : lastOf l h = sign (at_ l h (l.length / h)) := by unfold lastOf; rw [if_pos hmod]
    rw [e1, at_last hmod (by omega)] at c1
    rw [e1] at ho
    rw [e2] at hsig
    obtain ⟨bl, hbl⟩ : ∃ bl, full l h = bl := ⟨_, rfl⟩
    rw [hbl] at c1 ho hsig
    obtain ⟨x, hx⟩ : ∃ x, sign (at_ l h (l.length / h)) = x := ⟨_, rfl⟩
    rw [hx] at c1 hsig
    obtain ⟨t, ht⟩ : ∃ t, l.length % h = t := ⟨_, rfl⟩
    rw [ht] at c1 hsig
    obtain rfl : _ = s := hsig.out
    clear hbl hx ht e1 e2 hmod hsig
    have hKd : Hid (W.heap[D]? = some (.deferred (some []))) := Lib.hid hK
    have hDW : D < W.heap.size := (Array.getElem?_eq_some_iff.1 hK).1
    have hDr : D ≠ w.heap.size := by omega
    replace c0 := Lib.hid c0
    replace c1 := Lib.hid c1
    replace ho := Lib.hid ho
    replace hB := Lib.hid hB
    clear bb bs i0 i1 gg hre hrh hK
    refine wpIn_wide.2 ?_
    go_wp2_with (first
      | ((with_reducible refine wpList_isLoad 69 (.tmp 5) rfl ?_); refine wpList_load_row rfl 69 (.tmp 5) rfl (w.heap.size + 1) rfl 69 _ (0, 0) _ c1.out Try.underlying69 rfl (sigInfo _ _ _ _ _ _) ?_)
      | ((with_reducible refine wpList_isStore 69 (.tmp 4) (.tmp 33) rfl ?_); refine wpList_store_blk rfl 69 (.tmp 4) (.tmp 33) rfl w.heap.size _ rfl rfl 69 sigZ c0.out (sigInfo _ _ _ _ _ _) rfl (by simp [Value.oneCell']) ?_; intro w9 n9 k9 z9; have hKd9 := Lib.hid (((World.grownBy.block k9 D hDW (fun e => hDr (Option.some.inj e))).trans hKd.out)); replace n9 := Lib.hid n9; replace k9 := Lib.hid k9; replace z9 := Lib.hid z9))
    refine ⟨by simp, .inl ⟨_, _, rfl, run_takeDeferred hKd9.out, ?_⟩⟩
    have k0' : Blk (w9.putObj D (.deferred none)) w.heap.size 69 _ := n9.out.grown (grownBy_putObj' _ D (.deferred none)) (fun e => hDr (Option.some.inj e).symm)
    refine ⟨_, results_cell_row Try.results32 _ _ w.heap.size 69 _ (0, 0) _ rfl k0' Try.underlying69 rfl (sigInfo _ _ _ _ _ _), A1, c1', rfl, OR.base_le (or_own (os_kb ho.out k9.out (by omega)) (grownBy_putObj' _ D (.deferred none)) (fun r e => by cases e; exact ⟨_, hKd9.out, rfl⟩)) (by omega), (below_kb hB.out k9.out (Nat.le_refl _)).trans (belowK_b (w := w) (Nat.le_refl _) _ D _ _ (by omega) hKd9.out rfl rfl)⟩
end Sg
end Go.Proofs.Ytgnogoghfendpaa
namespace Go.Proofs.Ytgnogoghfendpaa
open Go Go.RowKit Go.Shelf W Sg Tk
namespace Se
/-- What is found, by the program's own walk. -/
theorem find_from (s : Sig) (A1 Ab : Option Addr) (c1 cb : Nat) (b : List UInt8) (w0 w : World) (hsr : SR w w.heap.size A1 s.bs) (hrb : RB w w.heap.size Ab b) (hc : b.length ≤ cb) (hcm : cb ≤ maxLen) (hbl : b.length ≤ 16384) (hrt : Sg.right s = true) (g0 : Gr w0 w) :
    ∀ (g mb : Nat) (w' : World), w.heap.size ≤ g → Hn w' g ⟨s, A1, c1, .map (some mb), Ab, cb, b⟩ (-1) [] → WM w' mb s.bs → Gr w w' →
      Calls Try.prog 39 #[.pointer (some ⟨g, 0, none⟩)] w' (fun e w'' => ∃ A c, e = .returned (.slice A (join (huntF s b (b.length + 1) 0 (-1))).length c) ∧ OT 35 w'' w0.heap.size (.slice A (join (huntF s b (b.length + 1) 0 (-1))).length c) (join (huntF s b (b.length + 1) 0 (-1))) ∧ Gr w0 w'') := by
  intro g mb w' hg hn hwm g1
  obtain ⟨z1, z2, z3, z4⟩ := right_pos hrt
  refine (run_any g mb s.size.toNat s.tail.toNat ⟨s, A1, c1, .map (some mb), Ab, cb, b⟩ w' hn rfl hwm ((hsr.below g1).more hg) ((hrb.below g1).more hg) ⟨hc, hcm⟩ hbl hrt (by simp only; omega) (by simp only; omega) _ rfl).mono ?_
  rintro e w'' ⟨A, c, rfl, h1, h2⟩
  have hz := Below.size g0
  exact ⟨A, c, rfl, OR.base_le h1 (by omega), Below.trans g0 (Below.mono (Below.trans g1 (h2.mono hg)) hz)⟩
set_option maxRecDepth 100000 in
set_option maxHeartbeats 4000000 in
theorem of_any (s : Sig) (A1 Ab : Option Addr) (c1 cb : Nat) (b : List UInt8) (w : World) (hsr : SR w w.heap.size A1 s.bs) (hnl : s.bs.length ≤ 1000000) (hrb : RB w w.heap.size Ab b) (hc : b.length ≤ cb) (hcm : cb ≤ maxLen) (hbl : b.length ≤ 16384) :
    Calls Try.prog 31 #[sigV s A1 c1, .slice Ab b.length cb] w (OutT 35 w (huntP s b)) := by
  have hri := Lib.hid (fun w => Sg.right_any s A1 c1 w)
  obtain ⟨L, hL⟩ : ∃ L, huntP s b = L := ⟨_, rfl⟩
  rw [hL]
  unfold huntP at hL
  replace hsr := Lib.hid hsr
  replace hrb := Lib.hid hrb
  have lw : w.heap.size < (w.alloc (.cells (sigC s.size (.slice A1 s.bs.length c1) s.tail s.last) 69)).heap.size := by rw [World.size_alloc]; omega
  have g0 := (Gr.refl w).alloc (.cells (sigC s.size (.slice A1 s.bs.length c1) s.tail s.last) 69)
  have b0 := Blk.new w 69 (sigC s.size (.slice A1 s.bs.length c1) s.tail s.last)
  cases hrt : Sg.right s with
  | true =>
    rw [hrt, if_pos rfl] at hL
    rw [hrt] at hri
    replace hrt := Lib.hid hrt
    replace hL := Lib.hid hL
    replace g0 := Lib.hid g0
    replace b0 := Lib.hid b0
    go_enter Try.func31, Try.ntmps31
    go_wp2_with fail
    go_at_call 37
    refine (hri.out _).mono ?_
    rintro e W1 ⟨rfl, g1⟩
    have b1 := blk_more b0.out g1
    have y0 := b1.cell 0
    have y1 := b1.cell 1
    have y2 := b1.cell 2
    have y3 := b1.cell 3
    have y4 := b1.cell 4
    have y5 := b1.cell 5
    have gg : Gr w W1 := Below.trans g0.out (Below.mono g1 (Below.size g0.out))
    have hsz1 := Below.size gg
    have hff := Lib.hid (find_from s A1 Ab c1 cb b w W1 ((hsr.out.below gg).more hsz1) ((hrb.out.below gg).more hsz1) hc hcm hbl hrt.out gg)
    rw [hL.out] at hff
    have hop := Lib.hid (open_any s A1 Ab c1 cb b W1 ((hsr.out.below gg).more hsz1) hnl)
    clear hri b0 g0 g1 b1 lw gg hsz1
    go_wp2_with fail
    go_at_call 38
    refine hop.out.mono ?_
    rintro e W2 ⟨g, mb, rfl, q1, q2, q3, q4⟩
    replace hff := Lib.hid (hff.out g mb W2 q1 q2 q3 q4)
    clear hop q1 q2 q3 q4 y0 y1 y2 y3 y4 y5
    go_wp2_with fail
    go_at_call 39
    refine hff.out.mono ?_
    rintro e W3 ⟨A, c, rfl, o3, g3⟩
    clear hff
    go_wp2
    go_ret
    exact ⟨A, c, rfl, o3, g3⟩
  | false =>
    rw [hrt, if_neg (by simp)] at hL
    rw [hrt] at hri
    replace hL := Lib.hid hL
    replace g0 := Lib.hid g0
    replace b0 := Lib.hid b0
    clear hrt
    go_enter Try.func31, Try.ntmps31
    go_wp2_with fail
    go_at_call 37
    refine (hri.out _).mono ?_
    rintro e W1 ⟨rfl, g1⟩
    have b1 := Lib.hid (blk_more b0.out g1)
    have gg : Gr w W1 := Below.trans g0.out (Below.mono g1 (Below.size g0.out))
    have hsz1 := Below.size gg
    have hsz2 : w.heap.size < W1.heap.size := b1.out.lt
    replace gg := Lib.hid gg
    clear hri b0 g0 g1 lw
    go_wp2_with (first
      | ((with_reducible refine wpList_isStore 69 (.tmp 2) (.tmp 8) rfl ?_); refine wpList_store_blk rfl 69 (.tmp 2) (.tmp 8) rfl w.heap.size (sigC 64 (.slice none 0 0) 0 zero) rfl rfl 69 (sigC s.size (.slice A1 s.bs.length c1) s.tail s.last) b1.out (sigInfo _ _ _ _ _ _) rfl (by simp [Value.oneCell']) ?_; intro w2 n2 k2 z2; have y0 := n2.cell 0; have y1 := n2.cell 1; have y2 := n2.cell 2; have y3 := n2.cell 3; have y4 := n2.cell 4; have y5 := n2.cell 5; have z2' := Lib.hid z2; have k2' := Lib.hid k2; clear n2 k2 z2))
    have gg2 : Gr w w2 := keep_at gg.out k2'.out (Nat.le_refl _) hsz1
    have hs2 := Below.size gg2
    have hff := Lib.hid (find_from blank none Ab 0 cb b w w2 Reads.none_ ((hrb.out.below gg2).more hs2) hc hcm hbl right_blank gg2)
    rw [hL.out] at hff
    have hop := Lib.hid (open_any blank none Ab 0 cb b w2 Reads.none_ (Nat.zero_le _))
    clear gg2 hs2 b1 hsz1 hsz2 gg k2' z2'
    go_at_call 38
    refine hop.out.mono ?_
    rintro e W2 ⟨g, mb, rfl, q1, q2, q3, q4⟩
    replace hff := Lib.hid (hff.out g mb W2 q1 q2 q3 q4)
    clear hop q1 q2 q3 q4 y0 y1 y2 y3 y4 y5
    go_wp2_with fail
    go_at_call 39
    refine hff.out.mono ?_
    rintro e W3 ⟨A, c, rfl, o3, g3⟩
    clear hff
    go_wp2
    go_ret
    exact ⟨A, c, rfl, o3, g3⟩
theorem huntP_len (s : Sig) (b : List UInt8) : (huntP s b).length ≤ 2 * b.length + 2 := by
  unfold huntP
  refine Nat.le_trans (join_len _) ?_
  cases h : Sg.right s with
  | true =>
    rw [if_pos rfl]
    have := right_pos h
    have := huntF_len (s := s) (b := b) (by omega) (b.length + 1) 0 (-1) (by omega)
    omega
  | false =>
    rw [if_neg (by simp)]
    have := huntF_len (s := blank) (b := b) (by decide) (b.length + 1) 0 (-1) (by omega)
    omega
theorem huntP_fits (s : Sig) (b : List UInt8) (hb : b.length ≤ 16384) : Fits (huntP s b) := by
  have hl := huntP_len s b
  refine ⟨by omega, fun t ht => (right_fit (join_all _ t ht)).1⟩
theorem sig_few (l : List UInt8) (size : Int) (hl : l.length ≤ 16384) : (sigOf l size).bs.length ≤ 4096 := (Sg.right_spec (right_sigOf l size hl)).2.2.1
set_option maxRecDepth 100000 in
set_option maxHeartbeats 4000000 in
theorem delta_any (A Ab : Option Addr) (c cb : Nat) (l b : List UInt8) (size : Int) (w : World) (hl : l.length ≤ 16384) (hlc : l.length ≤ c) (hcm0 : c ≤ maxLen) (hr : RB w w.heap.size A l) (hrb : RB w w.heap.size Ab b) (hc : b.length ≤ cb) (hcm : cb ≤ maxLen) (hbl : b.length ≤ 16384) :
    Calls Try.prog 18 #[.slice A l.length c, .int .i64 size, .slice Ab b.length cb] w (OutT 35 w (huntP (sigOf l size) b)) := by
  have hof := Lib.hid (Sg.of_any A c l size w (by omega) hlc hcm0 hr)
  have hfew := sig_few l size hl
  obtain ⟨s, hs⟩ : ∃ s, sigOf l size = s := ⟨_, rfl⟩
  rw [hs] at hof hfew ⊢
  replace hrb := Lib.hid hrb
  obtain ⟨L, hL⟩ : ∃ L, huntP s b = L := ⟨_, rfl⟩
  rw [hL]
  replace hL := Lib.hid hL
  clear hr
  go_enter Try.func18, Try.ntmps18
  go_wp2_with fail
  go_at_call 32
  refine hof.out.mono ?_
  rintro e W1 ⟨A1, c1, rfl, o1, g1⟩
  have hz := Below.size g1
  have hso := Lib.hid (Se.of_any s A1 Ab c1 cb b W1 o1.sr (by omega) ((hrb.out.below g1).more hz) hc hcm hbl)
  rw [hL.out] at hso
  clear hof o1
  go_wp2_with fail
  go_at_call 31
  refine hso.out.mono ?_
  rintro e W2 ⟨A2, c2, rfl, o2, g2⟩
  have gg : Gr w W2 := Below.trans g1 (Below.mono g2 hz)
  have oo : OT 35 W2 w.heap.size (.slice A2 L.length c2) L := OR.base_le o2 hz
  clear hso o2 g2 g1
  go_wp2
  go_ret
  exact ⟨A2, c2, rfl, oo, gg⟩
end Se
end Go.Proofs.Ytgnogoghfendpaa
namespace Go.Proofs.Ytgnogoghfendpaa
open Go Go.RowKit W Bl Vint
namespace Sg
/-- What is put so far. -/
def putN (s : Sig) (k : Nat) : List UInt8 := (num s.size.toNat ++ num s.bs.length) ++ (s.bs.take k).flatMap signB
theorem putN_zero (s : Sig) : putN s 0 = num s.size.toNat ++ num s.bs.length := by simp [putN]
theorem putN_succ (s : Sig) (k : Nat) (h : k < s.bs.length) : putN s k ++ signB s.bs[k] = putN s (k + 1) := by
  unfold putN
  rw [List.take_succ_eq_append_getElem h, List.flatMap_append, List.append_assoc]
  simp
theorem flat_le (l : List Sign) : (l.flatMap signB).length ≤ 26 * l.length := by
  induction l with
  | nil => simp
  | cons x l ih =>
    rw [List.flatMap_cons, List.length_append, List.length_cons]
    have := signB_le x
    omega
theorem putN_le (s : Sig) (k : Nat) (h : right s = true) : (putN s k).length ≤ 200000 := by
  obtain ⟨h1, h2, h3, h4, h5, _⟩ := right_spec h
  have a1 := num_length 9 s.size.toNat (by omega)
  have a2 := num_length 9 s.bs.length (by omega)
  have a3 := flat_le (s.bs.take k)
  simp only [putN, List.length_append]
  rw [List.length_take] at a3
  omega
theorem putB_right {s : Sig} (h : right s = true) : putB s = (putN s s.bs.length ++ num s.tail.toNat) ++ if 0 < s.tail then signB s.last else [] := by
  unfold putB putN
  rw [if_pos h, List.take_length]
  simp only [List.append_assoc]
theorem isB_nil (w : World) : isB [] (.slice none 0 0) w := ⟨none, 0, rfl, by simp, by unfold maxLen; omega, RB.nil_⟩
theorem ofInt_toNat {z : Int} (h : 0 ≤ z) (h2 : z < 18446744073709551616) : (UInt64.ofInt z).toNat = z.toNat := by
  rw [UInt64.ofInt, UInt64.toNat_ofNat']
  omega
theorem isB_gr {l : List UInt8} {v : Value} {w w' : World} (h : isB l v w) (g : Gr w w') : isB l v w' := isB_lasts l v w w' g h
end Sg
end Go.Proofs.Ytgnogoghfendpaa
namespace Go.Proofs.Ytgnogoghfendpaa
open Go Go.RowKit W
namespace Vint
theorem rest7 (n : UInt64) : (n % 128).toUInt8 = UInt8.ofNat (n.toNat % 128) := by
  apply UInt8.toNat_inj.1
  simp [UInt64.toNat_mod]
theorem rest7up (n : UInt64) : (n % 128).toUInt8 + 128 = UInt8.ofNat (n.toNat % 128 + 128) := by
  apply UInt8.toNat_inj.1
  rw [UInt8.toNat_add, rest7]
  simp
end Vint
end Go.Proofs.Ytgnogoghfendpaa
namespace Go.Proofs.Ytgnogoghfendpaa
open Go Go.RowKit W
namespace Vint
def byteB (x : UInt64) (i : Nat) : UInt8 := UInt8.ofNat (x.toNat / 256 ^ (7 - i))
/-- The eight bytes of a word, from place j on; zeros ahead. -/
def upB (x : UInt64) (j : Nat) : List UInt8 := (List.range 8).map fun i => if j ≤ i then byteB x i else 0
theorem upB_length (x : UInt64) (j : Nat) : (upB x j).length = 8 := by simp [upB]
theorem upB_all (x : UInt64) : upB x 0 = be8 x := by simp [upB, be8, byteB]
theorem upB_none (x : UInt64) : upB x 8 = [0, 0, 0, 0, 0, 0, 0, 0] := by rfl
theorem upB_set (x : UInt64) (m : Nat) (h : m < 8) : (upB x (m + 1)).set m (byteB x m) = upB x m := by
  apply List.ext_getElem
  · simp [upB]
  · intro i h1 h2
    rw [List.length_set, upB_length] at h1
    rw [List.getElem_set]
    by_cases e : m = i
    · subst e
      rw [if_pos rfl]
      simp [upB]
    · rw [if_neg e]
      simp only [upB, List.getElem_map, List.getElem_range]
      by_cases hle : m ≤ i
      · rw [if_pos (by omega), if_pos hle]
      · rw [if_neg (by omega), if_neg hle]
theorem two_set (x y : UInt64) (m : Nat) (h : m < 8) : ((upB x (m + 1) ++ upB y (m + 1)).set m (byteB x m)).set (8 + m) (byteB y m) = upB x m ++ upB y m := by
  have e1 : (upB x (m + 1) ++ upB y (m + 1)).set m (byteB x m) = upB x m ++ upB y (m + 1) := by
    rw [List.set_append, if_pos (by rw [upB_length]; exact h), upB_set x m h]
  rw [e1, List.set_append, if_neg (by rw [upB_length]; omega), upB_length, Nat.add_sub_cancel_left, upB_set y m h]
theorem down_b (X : Nat) : (UInt64.ofNat X % 256).toUInt8 = UInt8.ofNat (X % 18446744073709551616) := by
  apply UInt8.toNat_inj.1
  simp [UInt64.toNat_mod]
def dn (x : UInt64) (j : Nat) : UInt64 := UInt64.ofNat (x.toNat / 256 ^ (8 - j))
theorem dn_byte (x : UInt64) (m : Nat) (h : m < 8) : (dn x (m + 1) % 256).toUInt8 = byteB x m := by
  unfold dn byteB
  have e : 8 - (m + 1) = 7 - m := by omega
  have hl : x.toNat / 256 ^ (7 - m) < 18446744073709551616 := Nat.lt_of_le_of_lt (Nat.div_le_self _ _) x.toNat_lt
  rw [down_b, e, Nat.mod_eq_of_lt hl]
theorem dn_step (x : UInt64) (m : Nat) (h : m < 8) : dn x (m + 1) / 256 = dn x m := by
  apply UInt64.toNat_inj.1
  unfold dn
  have h1 : x.toNat / 256 ^ (8 - (m + 1)) < 18446744073709551616 := Nat.lt_of_le_of_lt (Nat.div_le_self _ _) x.toNat_lt
  have h2 : x.toNat / 256 ^ (8 - m) < 18446744073709551616 := Nat.lt_of_le_of_lt (Nat.div_le_self _ _) x.toNat_lt
  rw [UInt64.toNat_div, UInt64.toNat_ofNat', UInt64.toNat_ofNat', Nat.mod_eq_of_lt (show _ < 2 ^ 64 from h1), Nat.mod_eq_of_lt (show _ < 2 ^ 64 from h2)]
  have e : 8 - m = (8 - (m + 1)) + 1 := by omega
  rw [e, Nat.pow_succ, ← Nat.div_div_eq_div_mul]
  rfl
theorem dn_top (x : UInt64) : dn x 8 = x := by
  unfold dn
  simp
end Vint
end Go.Proofs.Ytgnogoghfendpaa
namespace Go.Proofs.Ytgnogoghfendpaa
open Go Go.RowKit W Bl Vint
namespace Sg
theorem sum_le (x y : UInt64) : (sum x y).length ≤ 16 := by
  simp only [sum, be8, List.length_append, List.length_map, List.length_range]
  omega
end Sg
end Go.Proofs.Ytgnogoghfendpaa
namespace Go.Proofs.Ytgnogoghfendpaa
open Go Go.RowKit W
namespace Sg
theorem rowTypeto : RowType Try.prog 67 3 24 := signRow
theorem infoto (a b c d e f : Value) : (Try.prog.info? 69).map (·.size) = some (#[a, b, c, d, e, f] : Array Value).size := sigInfo a b c d e f
abbrev sigZ0 : Array Value := #[.int .i64 0, .slice none 0 0, .int .i64 0, .int .u32 0, .int .u64 0, .int .u64 0]
def OutG (E : TypeId) (w : World) (s : Sig) : Ending → World → Prop := fun e w' => ∃ A c, e = .returned (sigV s A c) ∧ OS E w' w.heap.size (.slice A s.bs.length c) s.bs ∧ Gr w w'
theorem keep_blk {w a b : World} {g : Nat} (h : Kb g a b) (h1 : Gr w a) (h2 : w.heap.size ≤ g) : Gr w b :=
  ⟨h.os.trans h1.os, h.tape.trans h1.tape, h.output.trans h1.output, Nat.le_trans h1.size h.size, fun i hi => (World.grownBy.block h i (Nat.lt_of_lt_of_le hi h1.size) (fun e => by cases e; omega)).trans (h1.block i hi)⟩
end Sg
end Go.Proofs.Ytgnogoghfendpaa
namespace Go.Proofs.Ytgnogoghfendpaa
open Go Go.RowKit W Bl
namespace Sg
/-- Blocks as they are met. -/
theorem blk_full {l : List UInt8} {h k : Nat} (hh : 0 < h) (hk : k < count l.length h) : ((at_ l h k).length = h ∧ k < l.length / h) ∨ ((at_ l h k).length ≠ h ∧ (at_ l h k).length = l.length % h ∧ k = l.length / h ∧ 0 < l.length % h ∧ k + 1 = count l.length h) := by
  have h3 := (count_lt (n := l.length) hh).1 hk
  have h4 := Nat.div_add_mod l.length h
  rw [Nat.mul_comm] at h4
  have h5 := Nat.mod_lt l.length hh
  have h6 : (at_ l h k).length = min h (l.length - k * h) := by simp [at_]
  rcases Nat.lt_or_ge k (l.length / h) with h7 | h7
  · refine .inl ⟨?_, h7⟩
    have h8 : (k + 1) * h ≤ l.length / h * h := Nat.mul_le_mul_right _ h7
    rw [Nat.succ_mul] at h8
    omega
  · have e : k = l.length / h := by
      rcases Nat.lt_or_ge (l.length / h) k with h8 | h8
      · have h9 : (l.length / h + 1) * h ≤ k * h := Nat.mul_le_mul_right _ h8
        rw [Nat.succ_mul] at h9
        omega
      · omega
    have h8 : k * h = l.length / h * h := by rw [e]
    have h9 : 0 < l.length % h := by omega
    refine .inr ⟨by omega, by omega, e, h9, ?_⟩
    unfold count
    rw [if_pos h9, e]
def bsAt (l : List UInt8) (h k : Nat) : List Sign := (List.range (min k (l.length / h))).map fun i => sign (at_ l h i)
def tailAt (l : List UInt8) (h k : Nat) : Int := if l.length / h < k then ((l.length % h : Nat) : Int) else 0
def lastAt (l : List UInt8) (h k : Nat) : Sign := if l.length / h < k then sign (at_ l h (l.length / h)) else zero
theorem bsAt_len (l : List UInt8) (h k : Nat) : (bsAt l h k).length = min k (l.length / h) := by simp [bsAt]
theorem sig_end (l : List UInt8) (h : Nat) (hh : 0 < h) : bsAt l h (count l.length h) = full l h ∧ tailAt l h (count l.length h) = ((l.length % h : Nat) : Int) ∧ lastAt l h (count l.length h) = lastOf l h := by
  unfold bsAt tailAt lastAt full lastOf
  by_cases hm : 0 < l.length % h
  · have e : count l.length h = l.length / h + 1 := by unfold count; rw [if_pos hm]
    rw [e, if_pos (by omega), if_pos (by omega), if_pos hm, Nat.min_eq_right (by omega)]
    exact ⟨rfl, rfl, rfl⟩
  · have e : count l.length h = l.length / h := by unfold count; rw [if_neg hm]; rfl
    rw [e, if_neg (by omega), if_neg (by omega), if_neg hm, Nat.min_eq_right (by omega)]
    exact ⟨rfl, by omega, rfl⟩
theorem st_full {l : List UInt8} {h k : Nat} (hk : k < l.length / h) : bsAt l h (k + 1) = bsAt l h k ++ [sign (at_ l h k)] ∧ tailAt l h (k + 1) = 0 ∧ lastAt l h (k + 1) = zero ∧ tailAt l h k = 0 ∧ lastAt l h k = zero := by
  unfold bsAt tailAt lastAt
  rw [Nat.min_eq_left (by omega), Nat.min_eq_left (by omega), List.range_succ, if_neg (by omega), if_neg (by omega), if_neg (by omega), if_neg (by omega)]
  simp
theorem st_last {l : List UInt8} {h k : Nat} (hk : k = l.length / h) : bsAt l h (k + 1) = bsAt l h k ∧ tailAt l h (k + 1) = ((l.length % h : Nat) : Int) ∧ lastAt l h (k + 1) = sign (at_ l h k) ∧ tailAt l h k = 0 ∧ lastAt l h k = zero := by
  unfold bsAt tailAt lastAt
  rw [Nat.min_eq_right (by omega), Nat.min_eq_right (by omega), if_pos (by omega), if_pos (by omega), if_neg (by omega), if_neg (by omega), hk]
  exact ⟨rfl, rfl, rfl, rfl, rfl⟩
end Sg
end Go.Proofs.Ytgnogoghfendpaa
namespace Go.Proofs.Ytgnogoghfendpaa
open Go Go.RowKit Go.Shelf W Sg Tk
theorem run_str2 {P : Program} {w : World} {T : TypeId} (hT : P.underlying T = some .string) (b : List UInt8) (k k' : IntKind) (f t : Nat) (hft : f ≤ t) (htl : t ≤ b.length) :
    (Instr.sliceAt T (str b) (some (.int k (f : Int))) (some (.int k' (t : Int))) none).run P w = .ok (str ((b.drop f).take (t - f))) w := by
  have h1 : (f : Int) ≤ (t : Int) := by omega
  have h2 : (t : Int) ≤ (b.length : Int) := by omega
  have hs : (⟨b.toArray⟩ : ByteArray).size = b.length := by simp [ByteArray.size]
  simp [Instr.sliceAt, Instr.slice, Instr.sliceBounds, Instr.sliceBound, run_underlying hT, asIntOf, hs, hft, htl, ByteArray.extract_mk]
theorem run_str1 {P : Program} {w : World} {T : TypeId} (hT : P.underlying T = some .string) (b : List UInt8) (k : IntKind) (f : Nat) (hft : f ≤ b.length) :
    (Instr.sliceAt T (str b) (some (.int k (f : Int))) none none).run P w = .ok (str (b.drop f)) w := by
  have h1 : (f : Int) ≤ (b.length : Int) := by omega
  have hs : (⟨b.toArray⟩ : ByteArray).size = b.length := by simp [ByteArray.size]
  simp [Instr.sliceAt, Instr.slice, Instr.sliceBounds, Instr.sliceBound, run_underlying hT, asIntOf, hs, hft, ByteArray.extract_mk]
  exact List.take_of_length_le (by rw [List.length_drop]; omega)
theorem res_str2 {P : Program} {w : World} {T : TypeId} {o : Oper} {a : Act} {b : List UInt8} {k k' : IntKind} {f n : Nat} (x y z : Operand) (hT : P.underlying T = some .string) (ho : o.op = .slice T x (some y) (some z) none)
    (h1 : a.eval x = str b) (h2 : a.eval y = .int k (f : Int)) (h3 : a.eval z = .int k' ((f + n : Nat) : Int)) (htl : f + n ≤ b.length) : Res P (execOp a.eval o) (eqv (str ((b.drop f).take n))) w := by
  refine .here (v := str ((b.drop f).take n)) ?_ rfl
  have := run_str2 (P := P) (w := w) hT b k k' f (f + n) (by omega) htl
  rw [Nat.add_sub_cancel_left] at this
  simp only [execOp, ho, h1, Option.map_some, Option.map_none, h2, h3]
  rw [Sem.run_bind, this]
  rfl
theorem res_str1 {P : Program} {w : World} {T : TypeId} {o : Oper} {a : Act} {b : List UInt8} {k : IntKind} {f : Nat} (x y : Operand) (hT : P.underlying T = some .string) (ho : o.op = .slice T x (some y) none none)
    (h1 : a.eval x = str b) (h2 : a.eval y = .int k (f : Int)) (hft : f ≤ b.length) : Res P (execOp a.eval o) (eqv (str (b.drop f))) w := by
  refine .here (v := str (b.drop f)) ?_ rfl
  simp only [execOp, ho, h1, Option.map_some, Option.map_none, h2]
  rw [Sem.run_bind, run_str1 hT b k f hft]
  rfl
namespace Se
theorem findF_right {s : Sig} {b : List UInt8} (hr : Sg.right s = true) : ∀ (n at_ : Nat) (next : Int), ∀ x ∈ findF s b n at_ next, Tk.right x = true := by
  have hbs := (Sg.right_spec hr).2.2.1
  intro n
  induction n with
  | zero => intro at_ next x hx; simp [findF] at hx
  | succ n ih =>
    intro at_ next x hx
    unfold findF at hx
    by_cases h0 : b.length ≤ at_
    · rw [if_pos h0] at hx; cases hx
    · rw [if_neg h0] at hx
      cases e : stepP s b at_ next with
      | none =>
        rw [e] at hx
        rcases List.mem_cons.1 hx with rfl | hx
        · have hd : ((b.drop at_).take 1).length = 1 := by rw [List.length_take, List.length_drop]; omega
          exact right_lit (by intro h; rw [h] at hd; cases hd) (by omega)
        · exact ih _ _ x hx
      | some q =>
        obtain ⟨k, m⟩ := q
        have hk := (step_pos e).2.2
        rw [e] at hx
        rcases List.mem_cons.1 hx with rfl | hx
        · exact copy_right (by omega)
        · exact ih _ _ x hx
end Se
end Go.Proofs.Ytgnogoghfendpaa
namespace Go.Proofs.Ytgnogoghfendpaa
open Go Go.RowKit W Bl Tk
namespace Pt
def shortB (l : List Tok) : Bool := l.all fun t => decide (t.d.length ≤ 200)
def fewB (l : List Tok) : Bool := decide (l.length ≤ 20) && shortB l
theorem short_snoc (l : List Tok) (k : Nat) (h : k < l.length) (h1 : shortB (l.take k) = true) (h2 : (l[k]).d.length ≤ 200) : shortB (l.take (k + 1)) = true := by
  unfold shortB at *
  rw [List.take_succ_eq_append_getElem h, List.all_append, h1]
  simp [h2]
theorem short_bad (l : List Tok) (k : Nat) (h : k < l.length) (h2 : ¬ (l[k]).d.length ≤ 200) : shortB l = false := by
  unfold shortB
  rw [List.all_eq_false]
  exact ⟨l[k], List.getElem_mem h, by simpa using h2⟩
set_option maxRecDepth 100000 in
set_option maxHeartbeats 2000000 in
theorem few_any (A : Option Addr) (c : Nat) (l : List Tok) (w : World) (hl : TR w w.heap.size A l) (hd : ∀ t ∈ l, t.d.length ≤ 9223372036854775807) (hk : l.length ≤ 9223372036854775807) :
    Calls Try.prog 6 #[.slice A l.length c] w fun e w' => e = .returned (.bool (fewB l)) ∧ Gr w w' := by
  have hl' := Lib.hid hl
  have hd' := Lib.hid hd
  clear hl hd
  by_cases h30 : l.length ≤ 20
  · have h30' : ¬ (20 : Int) < (l.length : Int) := by omega
    have hfe : Hid (fewB l = shortB l) := Lib.hid (by unfold fewB; rw [decide_eq_true h30]; rfl)
    go_enter Try.func6, Try.ntmps6
    go_wp2
    go_loopw [3] (fun i wr => ∃ k : Nat, k ≤ l.length ∧ i = .int .i64 (k : Int) ∧ Hid (shortB (l.take k) = true) ∧ Gr w wr) (fun i _ => l.length - (intOf i).toNat)
    case atStart => exact ⟨0, by omega, rfl, Lib.hid rfl, Gr.refl w⟩
    case round =>
      obtain ⟨k, hk, rfl, hs, hg⟩ := hrel
      by_cases h : k < l.length
      · obtain ⟨ad, hA, hlt, e0, e1, e2⟩ := (hl'.out.below hg).at_ h
        subst hA
        have hdk := hd'.out l[k] (List.getElem_mem h)
        have i1 : (0 : Int) ≤ (k : Int) := by omega
        have i2 : (k : Int) < (l.length : Int) := by omega
        clear e0 e1
        by_cases hq : (l[k]).d.length ≤ 200
        · have hs' := Lib.hid (short_snoc l k h hs.out hq)
          have hq' : ¬ (200 : Int) < ((l[k]).d.length : Int) := by omega
          generalize l[k] = t at *
          go_wp2
          go_roundw
          case rel => exact ⟨k + 1, by omega, by go_num, hs', hg⟩
          case measure => simp [intOf]; omega
        · have hs' := Lib.hid (short_bad l k h hq)
          have hq' : (200 : Int) < ((l[k]).d.length : Int) := by omega
          generalize l[k] = t at *
          go_wp2
          go_ret
          exact ⟨ret_bool (by rw [hfe.out, hs'.out]), hg⟩
      · obtain rfl : k = l.length := by omega
        rw [List.take_length] at hs
        go_wp2
        go_ret
        exact ⟨ret_bool (by rw [hfe.out, hs.out]), hg⟩
  · have h30' : (20 : Int) < (l.length : Int) := by omega
    have hfe : Hid (fewB l = false) := Lib.hid (by unfold fewB; rw [decide_eq_false h30]; rfl)
    go_enter Try.func6, Try.ntmps6
    go_wp2
    go_ret
    exact ⟨ret_bool hfe.out.symm, Gr.refl w⟩
theorem TR.newN (w : World) (t : TypeId) (l : List Tok) (cs : Array Value) (h : cs.toList = tcs l) : TR (w.alloc (.cells cs t)) (w.heap.size + 1) (some ⟨w.heap.size, 0, none⟩) l := by
  refine ⟨tcs_len l, fun _ => ⟨_, rfl, Nat.lt_succ_self _, fun j u hu => ?_⟩⟩
  have ha : (⟨w.heap.size, 0, none⟩ : Addr).add j = ⟨w.heap.size, j, none⟩ := by unfold Addr.add; split <;> simp_all
  rw [ha, (Blk.new w t _).cell]
  rw [← h] at hu
  simpa using hu

theorem code1_any {o b : List UInt8} {c : Nat} (hc : c = 0) (ho : o.length + b.length ≤ 16384) : code1 o b c = 0 := code1_ok hc (by omega)
theorem papp_nil (old : List UInt8) (size : Int) (l : List Tok) (o : List UInt8) (k : Nat) (h : k = l.length) : papp old size (l.drop k) o = (o, 0) := by
  subst h
  rw [List.drop_length, papp]
set_option maxRecDepth 100000 in
set_option maxHeartbeats 4000000 in
theorem refApply_any (B : Option Addr) (cB : Nat) (old : List UInt8) (size : Int) (l : List Tok) (w : World) (hs : old.length ≤ 1000000) (hT : TR w w.heap.size B l) (hf : Fits l) (hk40 : l.length ≤ 1000000) :
    Calls Try.prog 10 #[str old, .int .i64 size, .slice B l.length cB] w (OutR w (papp old size l [])) := by
  have hst := Lib.hid (fun i (h : i < l.length) w => refStep_any old size l[i] w hs (hf.2 _ (List.getElem_mem h)))
  have hpl := Lib.hid (fun t => pstep_len old size t)
  have hT' := Lib.hid hT
  obtain ⟨r, hr0⟩ : ∃ r, papp old size l [] = r := ⟨_, rfl⟩
  rw [hr0]
  have hr1 : papp old size (l.drop 0) [] = r := hr0
  replace hr1 := Lib.hid hr1
  clear hr0 hT hf
  go_enter Try.func10, Try.ntmps10
  go_wp2
  go_loopw [8, 9] (fun out i wr => ∃ k : Nat, k ≤ l.length ∧ i = .int .i64 (k : Int) ∧ (∃ o, out = str o ∧ o.length ≤ 16384 ∧ Hid (papp old size (l.drop k) o = r)) ∧ Gr w wr) (fun _ i _ => l.length - (intOf i).toNat)
  case atStart => exact ⟨0, by omega, rfl, ⟨[], rfl, by simp, hr1⟩, Gr.refl w⟩
  case round =>
    obtain ⟨k, hk, rfl, ⟨o, rfl, hol, hpo⟩, hg⟩ := hrel
    by_cases h : k < l.length
    · obtain ⟨ad, hA, hlt, c0, c1, c2⟩ := (hT'.out.below hg).at_ h
      subst hA
      have hca := Lib.hid (hst.out k h wr)
      have hb := hpl.out l[k]
      have hok := Lib.hid (fun hc => papp_ok (old := old) (size := size) (o := o) h hc)
      have hbad := Lib.hid (fun hc => papp_bad (old := old) (size := size) (o := o) h hc)
      have i1 : (0 : Int) ≤ (k : Int) := by omega
      have i2 : (k : Int) < (l.length : Int) := by omega
      have hg' := Lib.hid hg
      clear hst hpl hr1 hg
      generalize l[k] = t at *
      obtain ⟨⟨b, cc⟩, hp⟩ : ∃ p, pstep old size t = p := ⟨_, rfl⟩
      rw [hp] at hca hb hok hbad
      simp only at hb hok hbad
      obtain ⟨f, m, d⟩ := t
      simp only at c0 c1 c2
      clear hp
      go_wp2_with fail
      go_at_call 12
      refine (hca.out).mono ?_
      rintro e w1 ⟨rfl, hg1⟩
      have G1 := Lib.hid (Gr.trans hg'.out hg1)
      clear hca hg' hg1 c0 c1 c2
      by_cases hc : cc = 0
      · have hci : ((cc : Int) == 0) = true := by simp [hc]
        by_cases hl : 16384 < o.length + b.length
        · have hli : 16384 < (o.length : Int) + (b.length : Int) := by omega
          have hl5 := code1_long hc hl
          have hre : Hid (r = ([], 5)) := Lib.hid (by rw [← hpo.out, hbad.out (by rw [hl5]; decide), hl5])
          clear hok hbad hc hl5 hpo
          go_wp2
          go_ret2
          exact ⟨by rw [hre.out]; rfl, G1.out⟩
        · have hli : ¬ 16384 < (o.length : Int) + (b.length : Int) := by omega
          have hre := Lib.hid ((hok.out (code1_any hc (by omega))).symm.trans hpo.out)
          have hl2 : (o ++ b).length ≤ 16384 := by rw [List.length_append]; omega
          clear hok hbad hc hpo
          go_wp2
          go_roundw
          case rel => exact ⟨k + 1, by omega, by go_num, ⟨o ++ b, by simp, hl2, hre⟩, G1.out⟩
          case measure => simp [intOf]; omega
      · have hci : ((cc : Int) == 0) = false := by rw [beq_eq_false_iff_ne]; omega
        have he := code1_err (o := o) (b := b) hc
        have hre : Hid (r = ([], cc)) := Lib.hid (by rw [← hpo.out, hbad.out (by rw [he]; exact hc), he])
        clear hok hbad hc he hpo
        go_wp2
        go_ret2
        exact ⟨by rw [hre.out]; rfl, G1.out⟩
    · obtain rfl : k = l.length := by omega
      have hre : Hid (r = (o, 0)) := Lib.hid (by rw [← hpo.out, papp_nil _ _ _ _ _ rfl])
      clear hpo hr1 hst hpl
      go_wp2
      go_ret2
      exact ⟨by rw [hre.out]; rfl, hg⟩
def exO : List UInt8 := [97, 98, 99, 100, 101, 102, 103, 104]
def exT : List Tok := [⟨1, 1, []⟩, ⟨0, 0, [120]⟩]
theorem ex_app : papp exO 4 exT [] = ([101, 102, 103, 104, 120], 0) := by decide +kernel
theorem ex_fit : Fits exT := ⟨by decide, by unfold exT Fit; simp⟩
set_option maxRecDepth 100000 in
set_option maxHeartbeats 4000000 in
set_option maxRecDepth 100000 in
theorem awake_any (w : World) : Calls Try.prog 7 #[] w fun e w' => e = .returned (.bool true) ∧ Gr w w' := by
  have r0 := Lib.hid (RB.of_new w 5 exO (8, 9))
  have G0 := Lib.hid ((Gr.refl w).alloc (.cells (bvs exO).toArray 5 (8, 9)))
  have T1 := Lib.hid (TR.newN (w.alloc (.cells (bvs exO).toArray 5 (8, 9))) 35 exT #[.int .i64 1, .int .i64 1, .string ⟨#[]⟩, .int .i64 0, .int .i64 0, .string ⟨#[120]⟩] rfl)
  have hap := Lib.hid (fun A2 (h2 : A2 = some ⟨w.heap.size + 1, 0, none⟩) w2 (h : w2 = ((w.alloc (.cells (bvs exO).toArray 5 (8, 9))).alloc (.cells #[.int .i64 1, .int .i64 1, .string ⟨#[]⟩, .int .i64 0, .int .i64 0, .string ⟨#[120]⟩] 35))) =>
    apply_any (some ⟨w.heap.size, 0, none⟩) A2 8 2 exO 4 exT w2 (by decide) (by decide) (by subst h; exact (r0.out.alloc (by rw [World.size_alloc]; omega) _).more (by rw [World.size_alloc, World.size_alloc]; omega)) (by subst h; subst h2; have := T1.out; rw [World.size_alloc] at this; exact this.more (by rw [World.size_alloc, World.size_alloc]; omega)) ex_fit (by decide))
  have kc := fun (w : World) (C : Array Value) (n c : Nat) => Lib.run_convert_bytes_const (P := Try.prog) w 22 5 C n c Try.underlying22 Bl.byteType.1
  go_enter Try.func7, Try.ntmps7
  go_wp2_with fail
  go_at_call 9
  refine (hap.out _ rfl _ rfl).mono ?_
  rintro e w1 ⟨v, rfl, hv, g1⟩
  rw [ex_app] at hv ⊢
  obtain ⟨A1, c1, rfl, hc1, hm1, r1⟩ := hv
  have r1' := Lib.hid r1
  have G1 := Lib.hid (Gr.trans (G0.out.alloc _) g1)
  clear r0 G0 T1 hap r1 g1
  have hcv := run_bytes_string (P := Try.prog) w1 22 9 5 Try.underlying22 Bl.byteType.1 Try.underlying9 w1.heap.size A1 c1 5 [101, 102, 103, 104, 120] rfl r1'.out
  go_wp2
  go_ret
  exact ⟨rfl, G1.out⟩
end Pt
end Go.Proofs.Ytgnogoghfendpaa
namespace Go.Proofs.Ytgnogoghfendpaa
open Go Go.RowKit W
namespace Mix
theorem eql_sum (s t : St) (x y : Operand) (w : World) : (do eqGuard .eql 43 x y (sumV s) (sumV t); binOp .eql 43 (sumV s) (sumV t) : Sem Value).run Try.prog w = .ok (.bool (s == t)) w := by
  have e : (s == t) = (s.1 == t.1 && s.2 == t.2) := rfl
  rw [e]
  by_cases h1 : s.1 = t.1 <;> by_cases h2 : s.2 = t.2 <;> simp [go_sem, h1, h2]
theorem sumInfo (a b : Value) : (Try.prog.info? 43).map (·.size) = some (#[a, b] : Array Value).size := by kernel_rfl
end Mix
end Go.Proofs.Ytgnogoghfendpaa
