/- The walks of block.put, Right, Total, Put. No condition but sizes. -/
import Derived.Test.YtcibngbgcnnjnaaSigRows
import Derived.Test.YtcibngbgcnnjnaaBlkWalk
import Derived.Test.YtcibngbgcnnjnaaVintPut
import Derived.Test.YtcibngbgcnnjnaaRound
set_option linter.unusedVariables false
set_option linter.unusedSimpArgs false
namespace Go.Proofs.Ytcibngbgcnnjnaa
open Go Go.RowKit W Bl Vint
namespace Sg
theorem signB_le (x : Sign) : (signB x).length ≤ 26 := by
  have := num_length 9 x.1.toNat (Nat.lt_of_lt_of_le x.1.toNat_lt (by decide))
  simp only [signB, sum, be8, List.length_append, List.length_map, List.length_range]
  omega
theorem word_nat (a : UInt32) : (a.toUInt64).toNat = a.toNat := by simp
set_option maxRecDepth 100000 in
set_option maxHeartbeats 4000000 in
theorem sput_any (A : Option Addr) (c : Nat) (l : List UInt8) (x : Sign) (w : World) (hs : l.length ≤ 1000000000000) (hc : l.length ≤ c) (hcm : c ≤ maxLen) (hr : RB w w.heap.size A l) :
    Calls Try.prog 44 #[.slice A l.length c, sV x] w (Out 5 w (l ++ signB x)) := by
  have bx := Lib.hid (Blk.new w 33 #[.int .u32 (n32 x.1), .int .u64 (n64 x.2.1), .int .u64 (n64 x.2.2)])
  have g0 := Lib.hid ((Gr.refl w).alloc (.cells #[.int .u32 (n32 x.1), .int .u64 (n64 x.2.1), .int .u64 (n64 x.2.2)] 33))
  have r0 := Lib.hid ((hr.alloc (Nat.le_refl _) (.cells #[.int .u32 (n32 x.1), .int .u64 (n64 x.2.1), .int .u64 (n64 x.2.2)] 33)).more (by rw [World.size_alloc]; omega) : RB (w.alloc (.cells #[.int .u32 (n32 x.1), .int .u64 (n64 x.2.1), .int .u64 (n64 x.2.2)] 33)) (w.alloc (.cells #[.int .u32 (n32 x.1), .int .u64 (n64 x.2.1), .int .u64 (n64 x.2.2)] 33)).heap.size A l)
  have hnl := num_length 9 x.1.toNat (Nat.lt_of_lt_of_le x.1.toNat_lt (by decide))
  clear hr
  go_enter Try.func44, Try.ntmps44
  go_wp2
  refine region_grow (by kernel_rfl) (by kernel_rfl) ?_
  refine GW.mv rfl trivial (.inl rfl) (kn0' (t := 0) (c := .slice A l.length c) (by kernel_rfl) rfl (isB_lasts _) (⟨A, c, rfl, hc, hcm, r0.out⟩)) (isB_lasts _) ?_
  refine GW.p1 (.pointer (some ⟨w.heap.size, 0, none⟩)) rfl trivial (kn0 (t := 3) (c := .pointer (some ⟨w.heap.size, 0, none⟩)) (by kernel_rfl) rfl) (fun ρ w' hρ hg => by simp [execOp, hρ, go_sem]) ?_
  refine GW.p1 (.int .u32 (n32 x.1)) rfl trivial (kn (t := 6) (j := 1) (by kernel_rfl)) (fun ρ w' hρ hg => by simp [execOp, hρ, go_sem, (hg.cell (p := ⟨w.heap.size, 0, none⟩) bx.out.lt).trans (bx.out.cell 0)]) ?_
  refine GW.p1 (.int .u64 (n64 x.1.toUInt64)) rfl trivial (kn (t := 7) (j := 2) (by kernel_rfl)) (fun ρ w' hρ hg => by simp [execOp, hρ, go_sem]) ?_
  refine GW.call2 (isB (l ++ num x.1.toNat)) rfl trivial rfl Try.func43 (by kernel_rfl) (by kernel_rfl) (isB_lasts _) (kn (t := 5) (j := 0) (by kernel_rfl)) (kn (t := 8) (j := 3) (by kernel_rfl)) (fun v u w' hg hv hu => ?_) ?_
  · obtain ⟨A1, c1, rfl, hc1, hm1, hr1⟩ := hv
    obtain rfl : u = _ := hu
    refine (vnum_any A1 c1 l x.1.toUInt64 w' (by omega) hr1).mono ?_
    rw [word_nat]
    rintro e w9 ⟨A9, c9, rfl, o9, g9⟩
    exact ⟨_, rfl, isB_of_own o9, g9⟩
  refine GW.p1 (.pointer (some ⟨w.heap.size, 1, none⟩)) rfl trivial (kn0 (t := 3) (c := .pointer (some ⟨w.heap.size, 0, none⟩)) (by kernel_rfl) rfl) (fun ρ w' hρ hg => by simp [execOp, hρ, go_sem]) ?_
  refine GW.p1 (.agg #[.int .u64 (n64 x.2.1), .int .u64 (n64 x.2.2)]) rfl trivial (kn (t := 10) (j := 5) (by kernel_rfl)) (fun ρ w' hρ hg => by simp [execOp, hρ, go_sem, (hg.cell (p := ⟨w.heap.size, 1, none⟩) bx.out.lt).trans (bx.out.cell 1), (hg.cell (p := ⟨w.heap.size, 2, none⟩) bx.out.lt).trans (bx.out.cell 2)]) ?_
  refine GW.call2 (isOR 5 1 w.heap.size ((l ++ num x.1.toNat) ++ sum x.2.1 x.2.2).length (bvs ((l ++ num x.1.toNat) ++ sum x.2.1 x.2.2))) rfl trivial rfl Try.func58 (by kernel_rfl) (by kernel_rfl) (isOR_lasts _ _ _ _ _) (kn (t := 9) (j := 4) (by kernel_rfl)) (kn (t := 11) (j := 6) (by kernel_rfl)) (fun v u w' hg hv hu => ?_) ?_
  · obtain ⟨A1, c1, rfl, hc1, hm1, hr1⟩ := hv
    obtain rfl : u = _ := hu
    refine (vsum_any A1 c1 (l ++ num x.1.toNat) x.2.1 x.2.2 w' (by rw [List.length_append]; omega) hr1).mono ?_
    rintro e w9 ⟨A9, c9, rfl, o9, g9⟩
    exact ⟨_, rfl, ⟨A9, c9, rfl, OB.base_le o9 (Nat.le_trans (by rw [World.size_alloc]; omega) (Below.size hg))⟩, g9⟩
  refine GW.mv rfl trivial (.inr rfl) (kn (t := 12) (j := 7) (by kernel_rfl)) (isOR_lasts _ _ _ _ _) ?_
  refine GW.done (by simp) (by kernel_rfl) (fun w' hg_ => ?_)
  intro v0 _ v1 _ v2 _ v3 _ v4 _ v5 _ v6 _ v7 _ v8 h8
  simp only [GFin, Act.put, List.setIfInBounds_toArray, List.set_cons_succ, List.set_cons_zero]
  obtain ⟨A9, c9, rfl, o9⟩ := h8
  clear r0 bx hnl
  go_wp2
  go_ret
  have e : (l ++ num x.1.toNat) ++ sum x.2.1 x.2.2 = l ++ signB x := by rw [signB, List.append_assoc]
  rw [← e]
  exact ⟨A9, c9, rfl, o9, Gr.trans g0.out hg_⟩
theorem run_eql_sign (T : TypeId) (hT : T = 33 ∨ T = 40) (s t : Sign) (x y : Operand) (w : World) :
    ((do eqGuard .eql T x y (sV s) (sV t); binOp .eql T (sV s) (sV t) : Sem Value).run Try.prog w = .ok (.bool (s == t)) w) ∧ ((do eqGuard .neq T x y (sV s) (sV t); binOp .neq T (sV s) (sV t) : Sem Value).run Try.prog w = .ok (.bool (s != t)) w) := by
  obtain ⟨f, m, d⟩ := s
  obtain ⟨f', m', d'⟩ := t
  constructor <;> rcases hT with rfl | rfl <;> by_cases h1 : f = f' <;> by_cases h2 : m = m' <;> by_cases h3 : d = d' <;> simp [go_sem, h1, h2, h3]
theorem hold_eq (z : Int) : (z == (hold z : Int)) = decide (4 ≤ z ∧ z ≤ 64) := by
  rw [Bool.eq_iff_iff, beq_iff_eq, decide_eq_true_eq]
  unfold hold
  repeat' split
  all_goals omega
theorem ret_bool {a b : Bool} (h : a = b) : Ending.returned (.bool a) = .returned (.bool b) := by rw [h]
set_option maxRecDepth 100000 in
set_option maxHeartbeats 8000000 in
theorem right_raw (z t : Int) (n : Nat) (x : Sign) (q : Bool) (hR : q = (decide (4 ≤ z ∧ z ≤ 64 ∧ n ≤ 4096 ∧ 0 ≤ t ∧ t < z) && (decide (0 < t) || x == zero))) (A : Option Addr) (c : Nat) (w : World) :
    Calls Try.prog 19 #[.agg (sigC z (.slice A n c) t x)] w fun e w' => e = .returned (.bool q) ∧ Gr w w' := by
  have bx := Lib.hid (Blk.new w 35 (sigC z (.slice A n c) t x))
  have g0 := Lib.hid ((Gr.refl w).alloc (.cells (sigC z (.slice A n c) t x) 35))
  have hho := Lib.hid (fun w => hold_any z w)
  have e0 := hold_eq z
  generalize hold z = h at *
  by_cases hp : 4 ≤ z ∧ z ≤ 64
  · rw [decide_eq_true hp] at e0
    by_cases e1 : (n : Int) ≤ 4096
    · by_cases e2 : 0 ≤ t
      · by_cases e3 : t < z
        · by_cases e4 : 0 < t
          · obtain rfl : q = true := by rw [hR]; simp; omega
            clear hR
            go_enter Try.func19, Try.ntmps19
            go_wp2
            refine region_grow (by kernel_rfl) (by kernel_rfl) ?_
            refine GW.p1 (.pointer (some ⟨w.heap.size, 0, none⟩)) rfl trivial (kn0 (t := 1) (c := .pointer (some ⟨w.heap.size, 0, none⟩)) (by kernel_rfl) rfl) (fun ρ w' hρ hg => by simp [execOp, hρ, go_sem]) ?_
            refine GW.p1 (.int .i64 z) rfl trivial (kn (t := 3) (j := 0) (by kernel_rfl)) (fun ρ w' hρ hg => by simp [execOp, hρ, go_sem, (hg.cell (p := ⟨w.heap.size, 0, none⟩) bx.out.lt).trans (bx.out.cell 0)]) ?_
            refine GW.p1 (.pointer (some ⟨w.heap.size, 0, none⟩)) rfl trivial (kn0 (t := 1) (c := .pointer (some ⟨w.heap.size, 0, none⟩)) (by kernel_rfl) rfl) (fun ρ w' hρ hg => by simp [execOp, hρ, go_sem]) ?_
            refine GW.p1 (.int .i64 z) rfl trivial (kn (t := 5) (j := 2) (by kernel_rfl)) (fun ρ w' hρ hg => by simp [execOp, hρ, go_sem, (hg.cell (p := ⟨w.heap.size, 0, none⟩) bx.out.lt).trans (bx.out.cell 0)]) ?_
            refine GW.call1 (eqv (.int .i64 (h : Int))) rfl trivial rfl Try.func27 (by kernel_rfl) (by kernel_rfl) (eqv_lasts _) (kn (t := 6) (j := 3) (by kernel_rfl)) (fun v w' hg hv => ?_) ?_
            · obtain rfl : v = _ := hv
              refine (hho.out w').mono ?_
              rintro e w9 ⟨rfl, rfl⟩
              exact ⟨_, rfl, rfl, Gr.refl _⟩
            refine GW.bin (.bool true) rfl trivial rfl (kn (t := 4) (j := 1) (by kernel_rfl)) (kn (t := 7) (j := 4) (by kernel_rfl)) (fun w' => by simp [go_sem, e0]) ?_
            refine GW.mv rfl trivial (.inl rfl) (kn (t := 8) (j := 5) (by kernel_rfl)) (eqv_lasts _) ?_
            refine GW.p1 (.pointer (some ⟨w.heap.size, 1, none⟩)) rfl ⟨9, by kernel_rfl, by kernel_rfl, fun _ _ h => h⟩ (kn0 (t := 1) (c := .pointer (some ⟨w.heap.size, 0, none⟩)) (by kernel_rfl) rfl) (fun ρ w' hρ hg => by simp [execOp, hρ, go_sem]) ?_
            refine GW.p1 (.slice A n c) rfl ⟨9, by kernel_rfl, by kernel_rfl, fun _ _ h => h⟩ (kn (t := 10) (j := 7) (by kernel_rfl)) (fun ρ w' hρ hg => by simp [execOp, hρ, go_sem, (hg.cell (p := ⟨w.heap.size, 1, none⟩) bx.out.lt).trans (bx.out.cell 1)]) ?_
            refine GW.lenV rfl ⟨9, by kernel_rfl, by kernel_rfl, fun _ _ h => h⟩ rfl Try.underlying27 (kn (t := 11) (j := 8) (by kernel_rfl)) ?_
            refine GW.bin (.bool true) rfl ⟨9, by kernel_rfl, by kernel_rfl, fun _ _ h => h⟩ rfl (kn (t := 12) (j := 9) (by kernel_rfl)) knc (fun w' => by simp [go_sem, e1]) ?_
            refine GW.pick (b := true) rfl trivial rfl (kn (t := 9) (j := 6) (by kernel_rfl)) (kn (t := 13) (j := 10) (by kernel_rfl)) (eqv_lasts _) ?_
            refine GW.mv rfl trivial (.inl rfl) (kn (t := 14) (j := 11) (by kernel_rfl)) (eqv_lasts _) ?_
            refine GW.p1 (.pointer (some ⟨w.heap.size, 2, none⟩)) rfl ⟨15, by kernel_rfl, by kernel_rfl, fun _ _ h => h⟩ (kn0 (t := 1) (c := .pointer (some ⟨w.heap.size, 0, none⟩)) (by kernel_rfl) rfl) (fun ρ w' hρ hg => by simp [execOp, hρ, go_sem]) ?_
            refine GW.p1 (.int .i64 t) rfl ⟨15, by kernel_rfl, by kernel_rfl, fun _ _ h => h⟩ (kn (t := 16) (j := 13) (by kernel_rfl)) (fun ρ w' hρ hg => by simp [execOp, hρ, go_sem, (hg.cell (p := ⟨w.heap.size, 2, none⟩) bx.out.lt).trans (bx.out.cell 2)]) ?_
            refine GW.bin (.bool true) rfl ⟨15, by kernel_rfl, by kernel_rfl, fun _ _ h => h⟩ rfl (kn (t := 17) (j := 14) (by kernel_rfl)) knc (fun w' => by simp [go_sem, e2]) ?_
            refine GW.pick (b := true) rfl trivial rfl (kn (t := 15) (j := 12) (by kernel_rfl)) (kn (t := 18) (j := 15) (by kernel_rfl)) (eqv_lasts _) ?_
            refine GW.mv rfl trivial (.inl rfl) (kn (t := 19) (j := 16) (by kernel_rfl)) (eqv_lasts _) ?_
            refine GW.p1 (.pointer (some ⟨w.heap.size, 2, none⟩)) rfl ⟨20, by kernel_rfl, by kernel_rfl, fun _ _ h => h⟩ (kn0 (t := 1) (c := .pointer (some ⟨w.heap.size, 0, none⟩)) (by kernel_rfl) rfl) (fun ρ w' hρ hg => by simp [execOp, hρ, go_sem]) ?_
            refine GW.p1 (.int .i64 t) rfl ⟨20, by kernel_rfl, by kernel_rfl, fun _ _ h => h⟩ (kn (t := 21) (j := 18) (by kernel_rfl)) (fun ρ w' hρ hg => by simp [execOp, hρ, go_sem, (hg.cell (p := ⟨w.heap.size, 2, none⟩) bx.out.lt).trans (bx.out.cell 2)]) ?_
            refine GW.p1 (.pointer (some ⟨w.heap.size, 0, none⟩)) rfl ⟨20, by kernel_rfl, by kernel_rfl, fun _ _ h => h⟩ (kn0 (t := 1) (c := .pointer (some ⟨w.heap.size, 0, none⟩)) (by kernel_rfl) rfl) (fun ρ w' hρ hg => by simp [execOp, hρ, go_sem]) ?_
            refine GW.p1 (.int .i64 z) rfl ⟨20, by kernel_rfl, by kernel_rfl, fun _ _ h => h⟩ (kn (t := 23) (j := 20) (by kernel_rfl)) (fun ρ w' hρ hg => by simp [execOp, hρ, go_sem, (hg.cell (p := ⟨w.heap.size, 0, none⟩) bx.out.lt).trans (bx.out.cell 0)]) ?_
            refine GW.bin (.bool true) rfl ⟨20, by kernel_rfl, by kernel_rfl, fun _ _ h => h⟩ rfl (kn (t := 22) (j := 19) (by kernel_rfl)) (kn (t := 24) (j := 21) (by kernel_rfl)) (fun w' => by simp [go_sem, e3]) ?_
            refine GW.pick (b := true) rfl trivial rfl (kn (t := 20) (j := 17) (by kernel_rfl)) (kn (t := 25) (j := 22) (by kernel_rfl)) (eqv_lasts _) ?_
            refine GW.mv rfl trivial (.inl rfl) (kn (t := 26) (j := 23) (by kernel_rfl)) (eqv_lasts _) ?_
            refine GW.p1 (.pointer (some ⟨w.heap.size, 2, none⟩)) rfl ⟨27, by kernel_rfl, by kernel_rfl, fun _ _ h => h⟩ (kn0 (t := 1) (c := .pointer (some ⟨w.heap.size, 0, none⟩)) (by kernel_rfl) rfl) (fun ρ w' hρ hg => by simp [execOp, hρ, go_sem]) ?_
            refine GW.p1 (.int .i64 t) rfl ⟨27, by kernel_rfl, by kernel_rfl, fun _ _ h => h⟩ (kn (t := 28) (j := 25) (by kernel_rfl)) (fun ρ w' hρ hg => by simp [execOp, hρ, go_sem, (hg.cell (p := ⟨w.heap.size, 2, none⟩) bx.out.lt).trans (bx.out.cell 2)]) ?_
            refine GW.bin (.bool true) rfl ⟨27, by kernel_rfl, by kernel_rfl, fun _ _ h => h⟩ rfl (kn (t := 29) (j := 26) (by kernel_rfl)) knc (fun w' => by simp [go_sem, e4]) ?_
            refine GW.mv rfl ⟨27, by kernel_rfl, by kernel_rfl, fun _ _ h => h⟩ (.inl rfl) (kn (t := 30) (j := 27) (by kernel_rfl)) (eqv_lasts _) ?_
            refine GW.skip rfl rfl (d := 31) (by kernel_rfl) (by kernel_rfl) (fun _ _ h => .inl h) ?_
            refine GW.skip rfl rfl (d := 31) (by kernel_rfl) (by kernel_rfl) (fun _ _ h => .inl h) ?_
            refine GW.skip rfl rfl (d := 31) (by kernel_rfl) (by kernel_rfl) (fun _ _ h => .inl h) ?_
            refine GW.skip rfl rfl (d := 31) (by kernel_rfl) (by kernel_rfl) (fun _ _ h => .inl h) ?_
            refine GW.pick (b := true) rfl ⟨27, by kernel_rfl, by kernel_rfl, fun _ _ h => h⟩ rfl (kn (t := 31) (j := 28) (by kernel_rfl)) (knc) (eqv_lasts _) ?_
            refine GW.pick (b := true) rfl trivial rfl (kn (t := 27) (j := 24) (by kernel_rfl)) (kn (t := 36) (j := 33) (by kernel_rfl)) (eqv_lasts _) ?_
            refine GW.mv rfl trivial (.inr rfl) (kn (t := 37) (j := 34) (by kernel_rfl)) (eqv_lasts _) ?_
            refine GW.done (by simp) (by kernel_rfl) (fun w' hg_ => ?_)
            intro v0 _ v1 _ v2 _ v3 _ v4 _ v5 _ v6 _ v7 _ v8 _ v9 _ v10 _ v11 _ v12 _ v13 _ v14 _ v15 _ v16 _ v17 _ v18 _ v19 _ v20 _ v21 _ v22 _ v23 _ v24 _ v25 _ v26 _ v27 _ v28 _ v29 _ v30 _ v31 _ v32 _ v33 _ v34 _ v35 h35
            obtain rfl : v35 = (Value.bool true) := h35
            simp only [GFin, Act.put, List.setIfInBounds_toArray, List.set_cons_succ, List.set_cons_zero]
            go_wp2
            go_ret
            exact ⟨rfl, Gr.trans g0.out hg_⟩
          · obtain rfl : q = (x == zero) := by rw [hR]; simp [e4]; omega
            clear hR
            go_enter Try.func19, Try.ntmps19
            go_wp2
            refine region_grow (by kernel_rfl) (by kernel_rfl) ?_
            refine GW.p1 (.pointer (some ⟨w.heap.size, 0, none⟩)) rfl trivial (kn0 (t := 1) (c := .pointer (some ⟨w.heap.size, 0, none⟩)) (by kernel_rfl) rfl) (fun ρ w' hρ hg => by simp [execOp, hρ, go_sem]) ?_
            refine GW.p1 (.int .i64 z) rfl trivial (kn (t := 3) (j := 0) (by kernel_rfl)) (fun ρ w' hρ hg => by simp [execOp, hρ, go_sem, (hg.cell (p := ⟨w.heap.size, 0, none⟩) bx.out.lt).trans (bx.out.cell 0)]) ?_
            refine GW.p1 (.pointer (some ⟨w.heap.size, 0, none⟩)) rfl trivial (kn0 (t := 1) (c := .pointer (some ⟨w.heap.size, 0, none⟩)) (by kernel_rfl) rfl) (fun ρ w' hρ hg => by simp [execOp, hρ, go_sem]) ?_
            refine GW.p1 (.int .i64 z) rfl trivial (kn (t := 5) (j := 2) (by kernel_rfl)) (fun ρ w' hρ hg => by simp [execOp, hρ, go_sem, (hg.cell (p := ⟨w.heap.size, 0, none⟩) bx.out.lt).trans (bx.out.cell 0)]) ?_
            refine GW.call1 (eqv (.int .i64 (h : Int))) rfl trivial rfl Try.func27 (by kernel_rfl) (by kernel_rfl) (eqv_lasts _) (kn (t := 6) (j := 3) (by kernel_rfl)) (fun v w' hg hv => ?_) ?_
            · obtain rfl : v = _ := hv
              refine (hho.out w').mono ?_
              rintro e w9 ⟨rfl, rfl⟩
              exact ⟨_, rfl, rfl, Gr.refl _⟩
            refine GW.bin (.bool true) rfl trivial rfl (kn (t := 4) (j := 1) (by kernel_rfl)) (kn (t := 7) (j := 4) (by kernel_rfl)) (fun w' => by simp [go_sem, e0]) ?_
            refine GW.mv rfl trivial (.inl rfl) (kn (t := 8) (j := 5) (by kernel_rfl)) (eqv_lasts _) ?_
            refine GW.p1 (.pointer (some ⟨w.heap.size, 1, none⟩)) rfl ⟨9, by kernel_rfl, by kernel_rfl, fun _ _ h => h⟩ (kn0 (t := 1) (c := .pointer (some ⟨w.heap.size, 0, none⟩)) (by kernel_rfl) rfl) (fun ρ w' hρ hg => by simp [execOp, hρ, go_sem]) ?_
            refine GW.p1 (.slice A n c) rfl ⟨9, by kernel_rfl, by kernel_rfl, fun _ _ h => h⟩ (kn (t := 10) (j := 7) (by kernel_rfl)) (fun ρ w' hρ hg => by simp [execOp, hρ, go_sem, (hg.cell (p := ⟨w.heap.size, 1, none⟩) bx.out.lt).trans (bx.out.cell 1)]) ?_
            refine GW.lenV rfl ⟨9, by kernel_rfl, by kernel_rfl, fun _ _ h => h⟩ rfl Try.underlying27 (kn (t := 11) (j := 8) (by kernel_rfl)) ?_
            refine GW.bin (.bool true) rfl ⟨9, by kernel_rfl, by kernel_rfl, fun _ _ h => h⟩ rfl (kn (t := 12) (j := 9) (by kernel_rfl)) knc (fun w' => by simp [go_sem, e1]) ?_
            refine GW.pick (b := true) rfl trivial rfl (kn (t := 9) (j := 6) (by kernel_rfl)) (kn (t := 13) (j := 10) (by kernel_rfl)) (eqv_lasts _) ?_
            refine GW.mv rfl trivial (.inl rfl) (kn (t := 14) (j := 11) (by kernel_rfl)) (eqv_lasts _) ?_
            refine GW.p1 (.pointer (some ⟨w.heap.size, 2, none⟩)) rfl ⟨15, by kernel_rfl, by kernel_rfl, fun _ _ h => h⟩ (kn0 (t := 1) (c := .pointer (some ⟨w.heap.size, 0, none⟩)) (by kernel_rfl) rfl) (fun ρ w' hρ hg => by simp [execOp, hρ, go_sem]) ?_
            refine GW.p1 (.int .i64 t) rfl ⟨15, by kernel_rfl, by kernel_rfl, fun _ _ h => h⟩ (kn (t := 16) (j := 13) (by kernel_rfl)) (fun ρ w' hρ hg => by simp [execOp, hρ, go_sem, (hg.cell (p := ⟨w.heap.size, 2, none⟩) bx.out.lt).trans (bx.out.cell 2)]) ?_
            refine GW.bin (.bool true) rfl ⟨15, by kernel_rfl, by kernel_rfl, fun _ _ h => h⟩ rfl (kn (t := 17) (j := 14) (by kernel_rfl)) knc (fun w' => by simp [go_sem, e2]) ?_
            refine GW.pick (b := true) rfl trivial rfl (kn (t := 15) (j := 12) (by kernel_rfl)) (kn (t := 18) (j := 15) (by kernel_rfl)) (eqv_lasts _) ?_
            refine GW.mv rfl trivial (.inl rfl) (kn (t := 19) (j := 16) (by kernel_rfl)) (eqv_lasts _) ?_
            refine GW.p1 (.pointer (some ⟨w.heap.size, 2, none⟩)) rfl ⟨20, by kernel_rfl, by kernel_rfl, fun _ _ h => h⟩ (kn0 (t := 1) (c := .pointer (some ⟨w.heap.size, 0, none⟩)) (by kernel_rfl) rfl) (fun ρ w' hρ hg => by simp [execOp, hρ, go_sem]) ?_
            refine GW.p1 (.int .i64 t) rfl ⟨20, by kernel_rfl, by kernel_rfl, fun _ _ h => h⟩ (kn (t := 21) (j := 18) (by kernel_rfl)) (fun ρ w' hρ hg => by simp [execOp, hρ, go_sem, (hg.cell (p := ⟨w.heap.size, 2, none⟩) bx.out.lt).trans (bx.out.cell 2)]) ?_
            refine GW.p1 (.pointer (some ⟨w.heap.size, 0, none⟩)) rfl ⟨20, by kernel_rfl, by kernel_rfl, fun _ _ h => h⟩ (kn0 (t := 1) (c := .pointer (some ⟨w.heap.size, 0, none⟩)) (by kernel_rfl) rfl) (fun ρ w' hρ hg => by simp [execOp, hρ, go_sem]) ?_
            refine GW.p1 (.int .i64 z) rfl ⟨20, by kernel_rfl, by kernel_rfl, fun _ _ h => h⟩ (kn (t := 23) (j := 20) (by kernel_rfl)) (fun ρ w' hρ hg => by simp [execOp, hρ, go_sem, (hg.cell (p := ⟨w.heap.size, 0, none⟩) bx.out.lt).trans (bx.out.cell 0)]) ?_
            refine GW.bin (.bool true) rfl ⟨20, by kernel_rfl, by kernel_rfl, fun _ _ h => h⟩ rfl (kn (t := 22) (j := 19) (by kernel_rfl)) (kn (t := 24) (j := 21) (by kernel_rfl)) (fun w' => by simp [go_sem, e3]) ?_
            refine GW.pick (b := true) rfl trivial rfl (kn (t := 20) (j := 17) (by kernel_rfl)) (kn (t := 25) (j := 22) (by kernel_rfl)) (eqv_lasts _) ?_
            refine GW.mv rfl trivial (.inl rfl) (kn (t := 26) (j := 23) (by kernel_rfl)) (eqv_lasts _) ?_
            refine GW.p1 (.pointer (some ⟨w.heap.size, 2, none⟩)) rfl ⟨27, by kernel_rfl, by kernel_rfl, fun _ _ h => h⟩ (kn0 (t := 1) (c := .pointer (some ⟨w.heap.size, 0, none⟩)) (by kernel_rfl) rfl) (fun ρ w' hρ hg => by simp [execOp, hρ, go_sem]) ?_
            refine GW.p1 (.int .i64 t) rfl ⟨27, by kernel_rfl, by kernel_rfl, fun _ _ h => h⟩ (kn (t := 28) (j := 25) (by kernel_rfl)) (fun ρ w' hρ hg => by simp [execOp, hρ, go_sem, (hg.cell (p := ⟨w.heap.size, 2, none⟩) bx.out.lt).trans (bx.out.cell 2)]) ?_
            refine GW.bin (.bool false) rfl ⟨27, by kernel_rfl, by kernel_rfl, fun _ _ h => h⟩ rfl (kn (t := 29) (j := 26) (by kernel_rfl)) knc (fun w' => by simp [go_sem, e4]) ?_
            refine GW.mv rfl ⟨27, by kernel_rfl, by kernel_rfl, fun _ _ h => h⟩ (.inl rfl) (kn (t := 30) (j := 27) (by kernel_rfl)) (eqv_lasts _) ?_
            refine GW.p1 (.pointer (some ⟨w.heap.size, 3, none⟩)) rfl ⟨31, by kernel_rfl, by kernel_rfl, fun _ _ h => h⟩ (kn0 (t := 1) (c := .pointer (some ⟨w.heap.size, 0, none⟩)) (by kernel_rfl) rfl) (fun ρ w' hρ hg => by simp [execOp, hρ, go_sem]) ?_
            refine GW.p1 (sV x) rfl ⟨31, by kernel_rfl, by kernel_rfl, fun _ _ h => h⟩ (kn (t := 32) (j := 29) (by kernel_rfl)) (fun ρ w' hρ hg => by simp [execOp, hρ, go_sem, (hg.cell (p := ⟨w.heap.size, 3, none⟩) bx.out.lt).trans (bx.out.cell 3), (hg.cell (p := ⟨w.heap.size, 4, none⟩) bx.out.lt).trans (bx.out.cell 4), (hg.cell (p := ⟨w.heap.size, 5, none⟩) bx.out.lt).trans (bx.out.cell 5)]) ?_
            refine GW.build #[] (sV zero) rfl ⟨31, by kernel_rfl, by kernel_rfl, fun _ _ h => h⟩ rfl trivial (fun w => by kernel_rfl) ?_
            refine GW.bin (.bool (x == zero)) rfl ⟨31, by kernel_rfl, by kernel_rfl, fun _ _ h => h⟩ rfl (kn (t := 33) (j := 30) (by kernel_rfl)) (kn (t := 34) (j := 31) (by kernel_rfl)) (fun w' => (run_eql_sign _ (.inl rfl) x zero _ _ w').1) ?_
            refine GW.pick (b := false) rfl ⟨27, by kernel_rfl, by kernel_rfl, fun _ _ h => h⟩ rfl (kn (t := 31) (j := 28) (by kernel_rfl)) (kn (t := 35) (j := 32) (by kernel_rfl)) (eqv_lasts _) ?_
            refine GW.pick (b := true) rfl trivial rfl (kn (t := 27) (j := 24) (by kernel_rfl)) (kn (t := 36) (j := 33) (by kernel_rfl)) (eqv_lasts _) ?_
            refine GW.mv rfl trivial (.inr rfl) (kn (t := 37) (j := 34) (by kernel_rfl)) (eqv_lasts _) ?_
            refine GW.done (by simp) (by kernel_rfl) (fun w' hg_ => ?_)
            intro v0 _ v1 _ v2 _ v3 _ v4 _ v5 _ v6 _ v7 _ v8 _ v9 _ v10 _ v11 _ v12 _ v13 _ v14 _ v15 _ v16 _ v17 _ v18 _ v19 _ v20 _ v21 _ v22 _ v23 _ v24 _ v25 _ v26 _ v27 _ v28 _ v29 _ v30 _ v31 _ v32 _ v33 _ v34 _ v35 h35
            obtain rfl : v35 = (.bool (x == zero)) := h35
            simp only [GFin, Act.put, List.setIfInBounds_toArray, List.set_cons_succ, List.set_cons_zero]
            go_wp2
            go_ret
            exact ⟨rfl, Gr.trans g0.out hg_⟩
        · obtain rfl : q = false := by rw [hR]; simp; omega
          clear hR
          go_enter Try.func19, Try.ntmps19
          go_wp2
          refine region_grow (by kernel_rfl) (by kernel_rfl) ?_
          refine GW.p1 (.pointer (some ⟨w.heap.size, 0, none⟩)) rfl trivial (kn0 (t := 1) (c := .pointer (some ⟨w.heap.size, 0, none⟩)) (by kernel_rfl) rfl) (fun ρ w' hρ hg => by simp [execOp, hρ, go_sem]) ?_
          refine GW.p1 (.int .i64 z) rfl trivial (kn (t := 3) (j := 0) (by kernel_rfl)) (fun ρ w' hρ hg => by simp [execOp, hρ, go_sem, (hg.cell (p := ⟨w.heap.size, 0, none⟩) bx.out.lt).trans (bx.out.cell 0)]) ?_
          refine GW.p1 (.pointer (some ⟨w.heap.size, 0, none⟩)) rfl trivial (kn0 (t := 1) (c := .pointer (some ⟨w.heap.size, 0, none⟩)) (by kernel_rfl) rfl) (fun ρ w' hρ hg => by simp [execOp, hρ, go_sem]) ?_
          refine GW.p1 (.int .i64 z) rfl trivial (kn (t := 5) (j := 2) (by kernel_rfl)) (fun ρ w' hρ hg => by simp [execOp, hρ, go_sem, (hg.cell (p := ⟨w.heap.size, 0, none⟩) bx.out.lt).trans (bx.out.cell 0)]) ?_
          refine GW.call1 (eqv (.int .i64 (h : Int))) rfl trivial rfl Try.func27 (by kernel_rfl) (by kernel_rfl) (eqv_lasts _) (kn (t := 6) (j := 3) (by kernel_rfl)) (fun v w' hg hv => ?_) ?_
          · obtain rfl : v = _ := hv
            refine (hho.out w').mono ?_
            rintro e w9 ⟨rfl, rfl⟩
            exact ⟨_, rfl, rfl, Gr.refl _⟩
          refine GW.bin (.bool true) rfl trivial rfl (kn (t := 4) (j := 1) (by kernel_rfl)) (kn (t := 7) (j := 4) (by kernel_rfl)) (fun w' => by simp [go_sem, e0]) ?_
          refine GW.mv rfl trivial (.inl rfl) (kn (t := 8) (j := 5) (by kernel_rfl)) (eqv_lasts _) ?_
          refine GW.p1 (.pointer (some ⟨w.heap.size, 1, none⟩)) rfl ⟨9, by kernel_rfl, by kernel_rfl, fun _ _ h => h⟩ (kn0 (t := 1) (c := .pointer (some ⟨w.heap.size, 0, none⟩)) (by kernel_rfl) rfl) (fun ρ w' hρ hg => by simp [execOp, hρ, go_sem]) ?_
          refine GW.p1 (.slice A n c) rfl ⟨9, by kernel_rfl, by kernel_rfl, fun _ _ h => h⟩ (kn (t := 10) (j := 7) (by kernel_rfl)) (fun ρ w' hρ hg => by simp [execOp, hρ, go_sem, (hg.cell (p := ⟨w.heap.size, 1, none⟩) bx.out.lt).trans (bx.out.cell 1)]) ?_
          refine GW.lenV rfl ⟨9, by kernel_rfl, by kernel_rfl, fun _ _ h => h⟩ rfl Try.underlying27 (kn (t := 11) (j := 8) (by kernel_rfl)) ?_
          refine GW.bin (.bool true) rfl ⟨9, by kernel_rfl, by kernel_rfl, fun _ _ h => h⟩ rfl (kn (t := 12) (j := 9) (by kernel_rfl)) knc (fun w' => by simp [go_sem, e1]) ?_
          refine GW.pick (b := true) rfl trivial rfl (kn (t := 9) (j := 6) (by kernel_rfl)) (kn (t := 13) (j := 10) (by kernel_rfl)) (eqv_lasts _) ?_
          refine GW.mv rfl trivial (.inl rfl) (kn (t := 14) (j := 11) (by kernel_rfl)) (eqv_lasts _) ?_
          refine GW.p1 (.pointer (some ⟨w.heap.size, 2, none⟩)) rfl ⟨15, by kernel_rfl, by kernel_rfl, fun _ _ h => h⟩ (kn0 (t := 1) (c := .pointer (some ⟨w.heap.size, 0, none⟩)) (by kernel_rfl) rfl) (fun ρ w' hρ hg => by simp [execOp, hρ, go_sem]) ?_
          refine GW.p1 (.int .i64 t) rfl ⟨15, by kernel_rfl, by kernel_rfl, fun _ _ h => h⟩ (kn (t := 16) (j := 13) (by kernel_rfl)) (fun ρ w' hρ hg => by simp [execOp, hρ, go_sem, (hg.cell (p := ⟨w.heap.size, 2, none⟩) bx.out.lt).trans (bx.out.cell 2)]) ?_
          refine GW.bin (.bool true) rfl ⟨15, by kernel_rfl, by kernel_rfl, fun _ _ h => h⟩ rfl (kn (t := 17) (j := 14) (by kernel_rfl)) knc (fun w' => by simp [go_sem, e2]) ?_
          refine GW.pick (b := true) rfl trivial rfl (kn (t := 15) (j := 12) (by kernel_rfl)) (kn (t := 18) (j := 15) (by kernel_rfl)) (eqv_lasts _) ?_
          refine GW.mv rfl trivial (.inl rfl) (kn (t := 19) (j := 16) (by kernel_rfl)) (eqv_lasts _) ?_
          refine GW.p1 (.pointer (some ⟨w.heap.size, 2, none⟩)) rfl ⟨20, by kernel_rfl, by kernel_rfl, fun _ _ h => h⟩ (kn0 (t := 1) (c := .pointer (some ⟨w.heap.size, 0, none⟩)) (by kernel_rfl) rfl) (fun ρ w' hρ hg => by simp [execOp, hρ, go_sem]) ?_
          refine GW.p1 (.int .i64 t) rfl ⟨20, by kernel_rfl, by kernel_rfl, fun _ _ h => h⟩ (kn (t := 21) (j := 18) (by kernel_rfl)) (fun ρ w' hρ hg => by simp [execOp, hρ, go_sem, (hg.cell (p := ⟨w.heap.size, 2, none⟩) bx.out.lt).trans (bx.out.cell 2)]) ?_
          refine GW.p1 (.pointer (some ⟨w.heap.size, 0, none⟩)) rfl ⟨20, by kernel_rfl, by kernel_rfl, fun _ _ h => h⟩ (kn0 (t := 1) (c := .pointer (some ⟨w.heap.size, 0, none⟩)) (by kernel_rfl) rfl) (fun ρ w' hρ hg => by simp [execOp, hρ, go_sem]) ?_
          refine GW.p1 (.int .i64 z) rfl ⟨20, by kernel_rfl, by kernel_rfl, fun _ _ h => h⟩ (kn (t := 23) (j := 20) (by kernel_rfl)) (fun ρ w' hρ hg => by simp [execOp, hρ, go_sem, (hg.cell (p := ⟨w.heap.size, 0, none⟩) bx.out.lt).trans (bx.out.cell 0)]) ?_
          refine GW.bin (.bool false) rfl ⟨20, by kernel_rfl, by kernel_rfl, fun _ _ h => h⟩ rfl (kn (t := 22) (j := 19) (by kernel_rfl)) (kn (t := 24) (j := 21) (by kernel_rfl)) (fun w' => by simp [go_sem, e3]) ?_
          refine GW.pick (b := true) rfl trivial rfl (kn (t := 20) (j := 17) (by kernel_rfl)) (kn (t := 25) (j := 22) (by kernel_rfl)) (eqv_lasts _) ?_
          refine GW.mv rfl trivial (.inl rfl) (kn (t := 26) (j := 23) (by kernel_rfl)) (eqv_lasts _) ?_
          refine GW.skip rfl rfl (d := 27) (by kernel_rfl) (by kernel_rfl) (fun _ _ h => .inl h) ?_
          refine GW.skip rfl rfl (d := 27) (by kernel_rfl) (by kernel_rfl) (fun _ _ h => .inl h) ?_
          refine GW.skip rfl rfl (d := 27) (by kernel_rfl) (by kernel_rfl) (fun _ _ h => .inl h) ?_
          refine GW.skip rfl rfl (d := 27) (by kernel_rfl) (by kernel_rfl) (fun _ _ h => .inl h) ?_
          refine GW.skip rfl rfl (d := 31) (by kernel_rfl) (by kernel_rfl) (fun _ _ h => .inr h) ?_
          refine GW.skip rfl rfl (d := 31) (by kernel_rfl) (by kernel_rfl) (fun _ _ h => .inr h) ?_
          refine GW.skip rfl rfl (d := 31) (by kernel_rfl) (by kernel_rfl) (fun _ _ h => .inr h) ?_
          refine GW.skip rfl rfl (d := 31) (by kernel_rfl) (by kernel_rfl) (fun _ _ h => .inr h) ?_
          refine GW.skip rfl rfl (d := 27) (by kernel_rfl) (by kernel_rfl) (fun _ _ h => .inl h) ?_
          refine GW.pick (b := false) rfl trivial rfl (kn (t := 27) (j := 24) (by kernel_rfl)) (knc) (eqv_lasts _) ?_
          refine GW.mv rfl trivial (.inr rfl) (kn (t := 37) (j := 34) (by kernel_rfl)) (eqv_lasts _) ?_
          refine GW.done (by simp) (by kernel_rfl) (fun w' hg_ => ?_)
          intro v0 _ v1 _ v2 _ v3 _ v4 _ v5 _ v6 _ v7 _ v8 _ v9 _ v10 _ v11 _ v12 _ v13 _ v14 _ v15 _ v16 _ v17 _ v18 _ v19 _ v20 _ v21 _ v22 _ v23 _ v24 _ v25 _ v26 _ v27 _ v28 _ v29 _ v30 _ v31 _ v32 _ v33 _ v34 _ v35 h35
          obtain rfl : v35 = (Value.bool false) := h35
          simp only [GFin, Act.put, List.setIfInBounds_toArray, List.set_cons_succ, List.set_cons_zero]
          go_wp2
          go_ret
          exact ⟨rfl, Gr.trans g0.out hg_⟩
      · obtain rfl : q = false := by rw [hR]; simp; omega
        clear hR
        go_enter Try.func19, Try.ntmps19
        go_wp2
        refine region_grow (by kernel_rfl) (by kernel_rfl) ?_
        refine GW.p1 (.pointer (some ⟨w.heap.size, 0, none⟩)) rfl trivial (kn0 (t := 1) (c := .pointer (some ⟨w.heap.size, 0, none⟩)) (by kernel_rfl) rfl) (fun ρ w' hρ hg => by simp [execOp, hρ, go_sem]) ?_
        refine GW.p1 (.int .i64 z) rfl trivial (kn (t := 3) (j := 0) (by kernel_rfl)) (fun ρ w' hρ hg => by simp [execOp, hρ, go_sem, (hg.cell (p := ⟨w.heap.size, 0, none⟩) bx.out.lt).trans (bx.out.cell 0)]) ?_
        refine GW.p1 (.pointer (some ⟨w.heap.size, 0, none⟩)) rfl trivial (kn0 (t := 1) (c := .pointer (some ⟨w.heap.size, 0, none⟩)) (by kernel_rfl) rfl) (fun ρ w' hρ hg => by simp [execOp, hρ, go_sem]) ?_
        refine GW.p1 (.int .i64 z) rfl trivial (kn (t := 5) (j := 2) (by kernel_rfl)) (fun ρ w' hρ hg => by simp [execOp, hρ, go_sem, (hg.cell (p := ⟨w.heap.size, 0, none⟩) bx.out.lt).trans (bx.out.cell 0)]) ?_
        refine GW.call1 (eqv (.int .i64 (h : Int))) rfl trivial rfl Try.func27 (by kernel_rfl) (by kernel_rfl) (eqv_lasts _) (kn (t := 6) (j := 3) (by kernel_rfl)) (fun v w' hg hv => ?_) ?_
        · obtain rfl : v = _ := hv
          refine (hho.out w').mono ?_
          rintro e w9 ⟨rfl, rfl⟩
          exact ⟨_, rfl, rfl, Gr.refl _⟩
        refine GW.bin (.bool true) rfl trivial rfl (kn (t := 4) (j := 1) (by kernel_rfl)) (kn (t := 7) (j := 4) (by kernel_rfl)) (fun w' => by simp [go_sem, e0]) ?_
        refine GW.mv rfl trivial (.inl rfl) (kn (t := 8) (j := 5) (by kernel_rfl)) (eqv_lasts _) ?_
        refine GW.p1 (.pointer (some ⟨w.heap.size, 1, none⟩)) rfl ⟨9, by kernel_rfl, by kernel_rfl, fun _ _ h => h⟩ (kn0 (t := 1) (c := .pointer (some ⟨w.heap.size, 0, none⟩)) (by kernel_rfl) rfl) (fun ρ w' hρ hg => by simp [execOp, hρ, go_sem]) ?_
        refine GW.p1 (.slice A n c) rfl ⟨9, by kernel_rfl, by kernel_rfl, fun _ _ h => h⟩ (kn (t := 10) (j := 7) (by kernel_rfl)) (fun ρ w' hρ hg => by simp [execOp, hρ, go_sem, (hg.cell (p := ⟨w.heap.size, 1, none⟩) bx.out.lt).trans (bx.out.cell 1)]) ?_
        refine GW.lenV rfl ⟨9, by kernel_rfl, by kernel_rfl, fun _ _ h => h⟩ rfl Try.underlying27 (kn (t := 11) (j := 8) (by kernel_rfl)) ?_
        refine GW.bin (.bool true) rfl ⟨9, by kernel_rfl, by kernel_rfl, fun _ _ h => h⟩ rfl (kn (t := 12) (j := 9) (by kernel_rfl)) knc (fun w' => by simp [go_sem, e1]) ?_
        refine GW.pick (b := true) rfl trivial rfl (kn (t := 9) (j := 6) (by kernel_rfl)) (kn (t := 13) (j := 10) (by kernel_rfl)) (eqv_lasts _) ?_
        refine GW.mv rfl trivial (.inl rfl) (kn (t := 14) (j := 11) (by kernel_rfl)) (eqv_lasts _) ?_
        refine GW.p1 (.pointer (some ⟨w.heap.size, 2, none⟩)) rfl ⟨15, by kernel_rfl, by kernel_rfl, fun _ _ h => h⟩ (kn0 (t := 1) (c := .pointer (some ⟨w.heap.size, 0, none⟩)) (by kernel_rfl) rfl) (fun ρ w' hρ hg => by simp [execOp, hρ, go_sem]) ?_
        refine GW.p1 (.int .i64 t) rfl ⟨15, by kernel_rfl, by kernel_rfl, fun _ _ h => h⟩ (kn (t := 16) (j := 13) (by kernel_rfl)) (fun ρ w' hρ hg => by simp [execOp, hρ, go_sem, (hg.cell (p := ⟨w.heap.size, 2, none⟩) bx.out.lt).trans (bx.out.cell 2)]) ?_
        refine GW.bin (.bool false) rfl ⟨15, by kernel_rfl, by kernel_rfl, fun _ _ h => h⟩ rfl (kn (t := 17) (j := 14) (by kernel_rfl)) knc (fun w' => by simp [go_sem, e2]) ?_
        refine GW.pick (b := true) rfl trivial rfl (kn (t := 15) (j := 12) (by kernel_rfl)) (kn (t := 18) (j := 15) (by kernel_rfl)) (eqv_lasts _) ?_
        refine GW.mv rfl trivial (.inl rfl) (kn (t := 19) (j := 16) (by kernel_rfl)) (eqv_lasts _) ?_
        refine GW.skip rfl rfl (d := 20) (by kernel_rfl) (by kernel_rfl) (fun _ _ h => .inl h) ?_
        refine GW.skip rfl rfl (d := 20) (by kernel_rfl) (by kernel_rfl) (fun _ _ h => .inl h) ?_
        refine GW.skip rfl rfl (d := 20) (by kernel_rfl) (by kernel_rfl) (fun _ _ h => .inl h) ?_
        refine GW.skip rfl rfl (d := 20) (by kernel_rfl) (by kernel_rfl) (fun _ _ h => .inl h) ?_
        refine GW.skip rfl rfl (d := 20) (by kernel_rfl) (by kernel_rfl) (fun _ _ h => .inl h) ?_
        refine GW.pick (b := false) rfl trivial rfl (kn (t := 20) (j := 17) (by kernel_rfl)) (knc) (eqv_lasts _) ?_
        refine GW.mv rfl trivial (.inl rfl) (kn (t := 26) (j := 23) (by kernel_rfl)) (eqv_lasts _) ?_
        refine GW.skip rfl rfl (d := 27) (by kernel_rfl) (by kernel_rfl) (fun _ _ h => .inl h) ?_
        refine GW.skip rfl rfl (d := 27) (by kernel_rfl) (by kernel_rfl) (fun _ _ h => .inl h) ?_
        refine GW.skip rfl rfl (d := 27) (by kernel_rfl) (by kernel_rfl) (fun _ _ h => .inl h) ?_
        refine GW.skip rfl rfl (d := 27) (by kernel_rfl) (by kernel_rfl) (fun _ _ h => .inl h) ?_
        refine GW.skip rfl rfl (d := 31) (by kernel_rfl) (by kernel_rfl) (fun _ _ h => .inr h) ?_
        refine GW.skip rfl rfl (d := 31) (by kernel_rfl) (by kernel_rfl) (fun _ _ h => .inr h) ?_
        refine GW.skip rfl rfl (d := 31) (by kernel_rfl) (by kernel_rfl) (fun _ _ h => .inr h) ?_
        refine GW.skip rfl rfl (d := 31) (by kernel_rfl) (by kernel_rfl) (fun _ _ h => .inr h) ?_
        refine GW.skip rfl rfl (d := 27) (by kernel_rfl) (by kernel_rfl) (fun _ _ h => .inl h) ?_
        refine GW.pick (b := false) rfl trivial rfl (kn (t := 27) (j := 24) (by kernel_rfl)) (knc) (eqv_lasts _) ?_
        refine GW.mv rfl trivial (.inr rfl) (kn (t := 37) (j := 34) (by kernel_rfl)) (eqv_lasts _) ?_
        refine GW.done (by simp) (by kernel_rfl) (fun w' hg_ => ?_)
        intro v0 _ v1 _ v2 _ v3 _ v4 _ v5 _ v6 _ v7 _ v8 _ v9 _ v10 _ v11 _ v12 _ v13 _ v14 _ v15 _ v16 _ v17 _ v18 _ v19 _ v20 _ v21 _ v22 _ v23 _ v24 _ v25 _ v26 _ v27 _ v28 _ v29 _ v30 _ v31 _ v32 _ v33 _ v34 _ v35 h35
        obtain rfl : v35 = (Value.bool false) := h35
        simp only [GFin, Act.put, List.setIfInBounds_toArray, List.set_cons_succ, List.set_cons_zero]
        go_wp2
        go_ret
        exact ⟨rfl, Gr.trans g0.out hg_⟩
    · obtain rfl : q = false := by rw [hR]; simp; omega
      clear hR
      go_enter Try.func19, Try.ntmps19
      go_wp2
      refine region_grow (by kernel_rfl) (by kernel_rfl) ?_
      refine GW.p1 (.pointer (some ⟨w.heap.size, 0, none⟩)) rfl trivial (kn0 (t := 1) (c := .pointer (some ⟨w.heap.size, 0, none⟩)) (by kernel_rfl) rfl) (fun ρ w' hρ hg => by simp [execOp, hρ, go_sem]) ?_
      refine GW.p1 (.int .i64 z) rfl trivial (kn (t := 3) (j := 0) (by kernel_rfl)) (fun ρ w' hρ hg => by simp [execOp, hρ, go_sem, (hg.cell (p := ⟨w.heap.size, 0, none⟩) bx.out.lt).trans (bx.out.cell 0)]) ?_
      refine GW.p1 (.pointer (some ⟨w.heap.size, 0, none⟩)) rfl trivial (kn0 (t := 1) (c := .pointer (some ⟨w.heap.size, 0, none⟩)) (by kernel_rfl) rfl) (fun ρ w' hρ hg => by simp [execOp, hρ, go_sem]) ?_
      refine GW.p1 (.int .i64 z) rfl trivial (kn (t := 5) (j := 2) (by kernel_rfl)) (fun ρ w' hρ hg => by simp [execOp, hρ, go_sem, (hg.cell (p := ⟨w.heap.size, 0, none⟩) bx.out.lt).trans (bx.out.cell 0)]) ?_
      refine GW.call1 (eqv (.int .i64 (h : Int))) rfl trivial rfl Try.func27 (by kernel_rfl) (by kernel_rfl) (eqv_lasts _) (kn (t := 6) (j := 3) (by kernel_rfl)) (fun v w' hg hv => ?_) ?_
      · obtain rfl : v = _ := hv
        refine (hho.out w').mono ?_
        rintro e w9 ⟨rfl, rfl⟩
        exact ⟨_, rfl, rfl, Gr.refl _⟩
      refine GW.bin (.bool true) rfl trivial rfl (kn (t := 4) (j := 1) (by kernel_rfl)) (kn (t := 7) (j := 4) (by kernel_rfl)) (fun w' => by simp [go_sem, e0]) ?_
      refine GW.mv rfl trivial (.inl rfl) (kn (t := 8) (j := 5) (by kernel_rfl)) (eqv_lasts _) ?_
      refine GW.p1 (.pointer (some ⟨w.heap.size, 1, none⟩)) rfl ⟨9, by kernel_rfl, by kernel_rfl, fun _ _ h => h⟩ (kn0 (t := 1) (c := .pointer (some ⟨w.heap.size, 0, none⟩)) (by kernel_rfl) rfl) (fun ρ w' hρ hg => by simp [execOp, hρ, go_sem]) ?_
      refine GW.p1 (.slice A n c) rfl ⟨9, by kernel_rfl, by kernel_rfl, fun _ _ h => h⟩ (kn (t := 10) (j := 7) (by kernel_rfl)) (fun ρ w' hρ hg => by simp [execOp, hρ, go_sem, (hg.cell (p := ⟨w.heap.size, 1, none⟩) bx.out.lt).trans (bx.out.cell 1)]) ?_
      refine GW.lenV rfl ⟨9, by kernel_rfl, by kernel_rfl, fun _ _ h => h⟩ rfl Try.underlying27 (kn (t := 11) (j := 8) (by kernel_rfl)) ?_
      refine GW.bin (.bool false) rfl ⟨9, by kernel_rfl, by kernel_rfl, fun _ _ h => h⟩ rfl (kn (t := 12) (j := 9) (by kernel_rfl)) knc (fun w' => by simp [go_sem, e1]) ?_
      refine GW.pick (b := true) rfl trivial rfl (kn (t := 9) (j := 6) (by kernel_rfl)) (kn (t := 13) (j := 10) (by kernel_rfl)) (eqv_lasts _) ?_
      refine GW.mv rfl trivial (.inl rfl) (kn (t := 14) (j := 11) (by kernel_rfl)) (eqv_lasts _) ?_
      refine GW.skip rfl rfl (d := 15) (by kernel_rfl) (by kernel_rfl) (fun _ _ h => .inl h) ?_
      refine GW.skip rfl rfl (d := 15) (by kernel_rfl) (by kernel_rfl) (fun _ _ h => .inl h) ?_
      refine GW.skip rfl rfl (d := 15) (by kernel_rfl) (by kernel_rfl) (fun _ _ h => .inl h) ?_
      refine GW.pick (b := false) rfl trivial rfl (kn (t := 15) (j := 12) (by kernel_rfl)) (knc) (eqv_lasts _) ?_
      refine GW.mv rfl trivial (.inl rfl) (kn (t := 19) (j := 16) (by kernel_rfl)) (eqv_lasts _) ?_
      refine GW.skip rfl rfl (d := 20) (by kernel_rfl) (by kernel_rfl) (fun _ _ h => .inl h) ?_
      refine GW.skip rfl rfl (d := 20) (by kernel_rfl) (by kernel_rfl) (fun _ _ h => .inl h) ?_
      refine GW.skip rfl rfl (d := 20) (by kernel_rfl) (by kernel_rfl) (fun _ _ h => .inl h) ?_
      refine GW.skip rfl rfl (d := 20) (by kernel_rfl) (by kernel_rfl) (fun _ _ h => .inl h) ?_
      refine GW.skip rfl rfl (d := 20) (by kernel_rfl) (by kernel_rfl) (fun _ _ h => .inl h) ?_
      refine GW.pick (b := false) rfl trivial rfl (kn (t := 20) (j := 17) (by kernel_rfl)) (knc) (eqv_lasts _) ?_
      refine GW.mv rfl trivial (.inl rfl) (kn (t := 26) (j := 23) (by kernel_rfl)) (eqv_lasts _) ?_
      refine GW.skip rfl rfl (d := 27) (by kernel_rfl) (by kernel_rfl) (fun _ _ h => .inl h) ?_
      refine GW.skip rfl rfl (d := 27) (by kernel_rfl) (by kernel_rfl) (fun _ _ h => .inl h) ?_
      refine GW.skip rfl rfl (d := 27) (by kernel_rfl) (by kernel_rfl) (fun _ _ h => .inl h) ?_
      refine GW.skip rfl rfl (d := 27) (by kernel_rfl) (by kernel_rfl) (fun _ _ h => .inl h) ?_
      refine GW.skip rfl rfl (d := 31) (by kernel_rfl) (by kernel_rfl) (fun _ _ h => .inr h) ?_
      refine GW.skip rfl rfl (d := 31) (by kernel_rfl) (by kernel_rfl) (fun _ _ h => .inr h) ?_
      refine GW.skip rfl rfl (d := 31) (by kernel_rfl) (by kernel_rfl) (fun _ _ h => .inr h) ?_
      refine GW.skip rfl rfl (d := 31) (by kernel_rfl) (by kernel_rfl) (fun _ _ h => .inr h) ?_
      refine GW.skip rfl rfl (d := 27) (by kernel_rfl) (by kernel_rfl) (fun _ _ h => .inl h) ?_
      refine GW.pick (b := false) rfl trivial rfl (kn (t := 27) (j := 24) (by kernel_rfl)) (knc) (eqv_lasts _) ?_
      refine GW.mv rfl trivial (.inr rfl) (kn (t := 37) (j := 34) (by kernel_rfl)) (eqv_lasts _) ?_
      refine GW.done (by simp) (by kernel_rfl) (fun w' hg_ => ?_)
      intro v0 _ v1 _ v2 _ v3 _ v4 _ v5 _ v6 _ v7 _ v8 _ v9 _ v10 _ v11 _ v12 _ v13 _ v14 _ v15 _ v16 _ v17 _ v18 _ v19 _ v20 _ v21 _ v22 _ v23 _ v24 _ v25 _ v26 _ v27 _ v28 _ v29 _ v30 _ v31 _ v32 _ v33 _ v34 _ v35 h35
      obtain rfl : v35 = (Value.bool false) := h35
      simp only [GFin, Act.put, List.setIfInBounds_toArray, List.set_cons_succ, List.set_cons_zero]
      go_wp2
      go_ret
      exact ⟨rfl, Gr.trans g0.out hg_⟩
  · rw [decide_eq_false hp] at e0
    obtain rfl : q = false := by rw [hR]; simp; omega
    clear hR
    go_enter Try.func19, Try.ntmps19
    go_wp2
    refine region_grow (by kernel_rfl) (by kernel_rfl) ?_
    refine GW.p1 (.pointer (some ⟨w.heap.size, 0, none⟩)) rfl trivial (kn0 (t := 1) (c := .pointer (some ⟨w.heap.size, 0, none⟩)) (by kernel_rfl) rfl) (fun ρ w' hρ hg => by simp [execOp, hρ, go_sem]) ?_
    refine GW.p1 (.int .i64 z) rfl trivial (kn (t := 3) (j := 0) (by kernel_rfl)) (fun ρ w' hρ hg => by simp [execOp, hρ, go_sem, (hg.cell (p := ⟨w.heap.size, 0, none⟩) bx.out.lt).trans (bx.out.cell 0)]) ?_
    refine GW.p1 (.pointer (some ⟨w.heap.size, 0, none⟩)) rfl trivial (kn0 (t := 1) (c := .pointer (some ⟨w.heap.size, 0, none⟩)) (by kernel_rfl) rfl) (fun ρ w' hρ hg => by simp [execOp, hρ, go_sem]) ?_
    refine GW.p1 (.int .i64 z) rfl trivial (kn (t := 5) (j := 2) (by kernel_rfl)) (fun ρ w' hρ hg => by simp [execOp, hρ, go_sem, (hg.cell (p := ⟨w.heap.size, 0, none⟩) bx.out.lt).trans (bx.out.cell 0)]) ?_
    refine GW.call1 (eqv (.int .i64 (h : Int))) rfl trivial rfl Try.func27 (by kernel_rfl) (by kernel_rfl) (eqv_lasts _) (kn (t := 6) (j := 3) (by kernel_rfl)) (fun v w' hg hv => ?_) ?_
    · obtain rfl : v = _ := hv
      refine (hho.out w').mono ?_
      rintro e w9 ⟨rfl, rfl⟩
      exact ⟨_, rfl, rfl, Gr.refl _⟩
    refine GW.bin (.bool false) rfl trivial rfl (kn (t := 4) (j := 1) (by kernel_rfl)) (kn (t := 7) (j := 4) (by kernel_rfl)) (fun w' => by simp [go_sem, e0]) ?_
    refine GW.mv rfl trivial (.inl rfl) (kn (t := 8) (j := 5) (by kernel_rfl)) (eqv_lasts _) ?_
    refine GW.skip rfl rfl (d := 9) (by kernel_rfl) (by kernel_rfl) (fun _ _ h => .inl h) ?_
    refine GW.skip rfl rfl (d := 9) (by kernel_rfl) (by kernel_rfl) (fun _ _ h => .inl h) ?_
    refine GW.skip rfl rfl (d := 9) (by kernel_rfl) (by kernel_rfl) (fun _ _ h => .inl h) ?_
    refine GW.skip rfl rfl (d := 9) (by kernel_rfl) (by kernel_rfl) (fun _ _ h => .inl h) ?_
    refine GW.pick (b := false) rfl trivial rfl (kn (t := 9) (j := 6) (by kernel_rfl)) (knc) (eqv_lasts _) ?_
    refine GW.mv rfl trivial (.inl rfl) (kn (t := 14) (j := 11) (by kernel_rfl)) (eqv_lasts _) ?_
    refine GW.skip rfl rfl (d := 15) (by kernel_rfl) (by kernel_rfl) (fun _ _ h => .inl h) ?_
    refine GW.skip rfl rfl (d := 15) (by kernel_rfl) (by kernel_rfl) (fun _ _ h => .inl h) ?_
    refine GW.skip rfl rfl (d := 15) (by kernel_rfl) (by kernel_rfl) (fun _ _ h => .inl h) ?_
    refine GW.pick (b := false) rfl trivial rfl (kn (t := 15) (j := 12) (by kernel_rfl)) (knc) (eqv_lasts _) ?_
    refine GW.mv rfl trivial (.inl rfl) (kn (t := 19) (j := 16) (by kernel_rfl)) (eqv_lasts _) ?_
    refine GW.skip rfl rfl (d := 20) (by kernel_rfl) (by kernel_rfl) (fun _ _ h => .inl h) ?_
    refine GW.skip rfl rfl (d := 20) (by kernel_rfl) (by kernel_rfl) (fun _ _ h => .inl h) ?_
    refine GW.skip rfl rfl (d := 20) (by kernel_rfl) (by kernel_rfl) (fun _ _ h => .inl h) ?_
    refine GW.skip rfl rfl (d := 20) (by kernel_rfl) (by kernel_rfl) (fun _ _ h => .inl h) ?_
    refine GW.skip rfl rfl (d := 20) (by kernel_rfl) (by kernel_rfl) (fun _ _ h => .inl h) ?_
    refine GW.pick (b := false) rfl trivial rfl (kn (t := 20) (j := 17) (by kernel_rfl)) (knc) (eqv_lasts _) ?_
    refine GW.mv rfl trivial (.inl rfl) (kn (t := 26) (j := 23) (by kernel_rfl)) (eqv_lasts _) ?_
    refine GW.skip rfl rfl (d := 27) (by kernel_rfl) (by kernel_rfl) (fun _ _ h => .inl h) ?_
    refine GW.skip rfl rfl (d := 27) (by kernel_rfl) (by kernel_rfl) (fun _ _ h => .inl h) ?_
    refine GW.skip rfl rfl (d := 27) (by kernel_rfl) (by kernel_rfl) (fun _ _ h => .inl h) ?_
    refine GW.skip rfl rfl (d := 27) (by kernel_rfl) (by kernel_rfl) (fun _ _ h => .inl h) ?_
    refine GW.skip rfl rfl (d := 31) (by kernel_rfl) (by kernel_rfl) (fun _ _ h => .inr h) ?_
    refine GW.skip rfl rfl (d := 31) (by kernel_rfl) (by kernel_rfl) (fun _ _ h => .inr h) ?_
    refine GW.skip rfl rfl (d := 31) (by kernel_rfl) (by kernel_rfl) (fun _ _ h => .inr h) ?_
    refine GW.skip rfl rfl (d := 31) (by kernel_rfl) (by kernel_rfl) (fun _ _ h => .inr h) ?_
    refine GW.skip rfl rfl (d := 27) (by kernel_rfl) (by kernel_rfl) (fun _ _ h => .inl h) ?_
    refine GW.pick (b := false) rfl trivial rfl (kn (t := 27) (j := 24) (by kernel_rfl)) (knc) (eqv_lasts _) ?_
    refine GW.mv rfl trivial (.inr rfl) (kn (t := 37) (j := 34) (by kernel_rfl)) (eqv_lasts _) ?_
    refine GW.done (by simp) (by kernel_rfl) (fun w' hg_ => ?_)
    intro v0 _ v1 _ v2 _ v3 _ v4 _ v5 _ v6 _ v7 _ v8 _ v9 _ v10 _ v11 _ v12 _ v13 _ v14 _ v15 _ v16 _ v17 _ v18 _ v19 _ v20 _ v21 _ v22 _ v23 _ v24 _ v25 _ v26 _ v27 _ v28 _ v29 _ v30 _ v31 _ v32 _ v33 _ v34 _ v35 h35
    obtain rfl : v35 = (Value.bool false) := h35
    simp only [GFin, Act.put, List.setIfInBounds_toArray, List.set_cons_succ, List.set_cons_zero]
    go_wp2
    go_ret
    exact ⟨rfl, Gr.trans g0.out hg_⟩
theorem right_any (s : Sig) (A : Option Addr) (c : Nat) (w : World) : Calls Try.prog 19 #[sigV s A c] w fun e w' => e = .returned (.bool (right s)) ∧ Gr w w' := right_raw _ _ _ _ _ rfl A c w
set_option maxRecDepth 100000 in
set_option maxHeartbeats 4000000 in
theorem total_any (s : Sig) (A : Option Addr) (c : Nat) (w : World) : Calls Try.prog 18 #[sigV s A c] w fun e w' => e = .returned (.int .i64 (total s)) ∧ Gr w w' := by
  have hro := Lib.hid (fun w => right_any s A c w)
  have g0 := Lib.hid ((Gr.refl w).alloc (.cells (sigC s.size (.slice A s.bs.length c) s.tail s.last) 35))
  have bx := Lib.hid (Blk.new w 35 (sigC s.size (.slice A s.bs.length c) s.tail s.last))
  have ht : total s = if right s then (s.bs.length : Int) * s.size + s.tail else 0 := rfl
  obtain ⟨v, hv⟩ : ∃ v, total s = v := ⟨_, rfl⟩
  rw [hv] at ht ⊢
  cases hq : right s
  · rw [hq] at hro ht
    obtain rfl : v = 0 := ht
    go_enter Try.func18, Try.ntmps18
    go_wp2_with fail
    go_at_call 19
    refine (hro.out _).mono ?_
    rintro e w1 ⟨rfl, g1⟩
    have G1 := Lib.hid (Gr.trans g0.out g1)
    clear g1 g0 hro bx
    go_wp2
    go_ret
    exact ⟨rfl, G1.out⟩
  · rw [hq] at hro ht
    obtain rfl : v = (s.bs.length : Int) * s.size + s.tail := ht
    obtain ⟨h1, h2, h3, h4, h5, _⟩ := right_spec hq
    have hm1 : (s.bs.length : Int) * s.size ≤ 4096 * 64 := Int.mul_le_mul (by omega) h2 (by omega) (by omega)
    have hm0 : 0 ≤ (s.bs.length : Int) * s.size := Int.mul_nonneg (by omega) (by omega)
    clear hv hq
    go_enter Try.func18, Try.ntmps18
    go_wp2_with fail
    go_at_call 19
    refine (hro.out _).mono ?_
    rintro e w1 ⟨rfl, g1⟩
    have b1 := blk_more bx.out g1
    have x0 := b1.cell 0
    have x1 := b1.cell 1
    have x2 := b1.cell 2
    have G1 := Lib.hid (Gr.trans g0.out g1)
    clear g1 g0 hro bx b1
    obtain ⟨m, hm⟩ : ∃ m, (s.bs.length : Int) * s.size = m := ⟨_, rfl⟩
    rw [hm] at hm0 hm1
    go_wp2
    go_ret
    refine ⟨?_, G1.out⟩
    simp
    exact hm.symm
end Sg
end Go.Proofs.Ytcibngbgcnnjnaa

